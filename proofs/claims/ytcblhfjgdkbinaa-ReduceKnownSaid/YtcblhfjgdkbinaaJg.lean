/- symMerge over rows of records (its walk printed by wip/tools/gen_jg.py). Conditions: the memory; what compare, rotate answer. -/
import Derived.Test.YtcblhfjgdkbinaaJf
namespace Go.Proofs.Ytcblhfjgdkbinaa.Re
open Go.RowKit Go.Proofs.Ytcblhfjgdkbinaa.Mem Go.Proofs.Ytcblhfjgdkbinaa.Sl Go.Shelf Go.Sort
open Go.Proofs.Ytcblhfjgdkbinaa.FnL (enc_at below_then)
open Go.Proofs.Ytcblhfjgdkbinaa.Lt (Later wp_region_later)
set_option linter.unusedVariables false

abbrev lt := ltOf cfR
theorem cmpI_lt (x y : Int) : Lib.compareInt x y < 0 ↔ x < y := by unfold Lib.compareInt; split <;> (try split) <;> omega
theorem cmpI_eq (x y : Int) : Lib.compareInt x y = 0 ↔ x = y := by unfold Lib.compareInt; split <;> (try split) <;> omega
/-- Ahead of: by the words of the document. -/
theorem lt_iff (x y : Rc) : lt x y = true ↔ (y.lbd < x.lbd ∨ (y.lbd = x.lbd ∧ (y.size < x.size ∨ (y.size = x.size ∧ (x.used < y.used ∨ (x.used = y.used ∧ x.id < y.id)))))) := by
  have h1 := cmpI_lt y.lbd x.lbd
  have h2 := cmpI_lt y.size x.size
  have h3 := cmpI_lt x.used y.used
  have h4 := cmpI_lt x.id y.id
  have k1 := cmpI_eq y.lbd x.lbd
  have k2 := cmpI_eq y.size x.size
  have k3 := cmpI_eq x.used y.used
  show decide (cfR x y < 0) = true ↔ _
  rw [decide_eq_true_iff]
  unfold cfR orF
  split
  · omega
  · split
    · omega
    · split
      · omega
      · omega
theorem lt_no (x y : Rc) : lt x y = false ↔ ¬ (y.lbd < x.lbd ∨ (y.lbd = x.lbd ∧ (y.size < x.size ∨ (y.size = x.size ∧ (x.used < y.used ∨ (x.used = y.used ∧ x.id < y.id)))))) := by
  rw [← lt_iff]; cases lt x y <;> simp
theorem swo : SWO lt where
  irrefl x := by rw [lt_no]; omega
  trans x y z := by rw [lt_iff, lt_iff, lt_iff]; omega
  ntrans x y z := by rw [lt_no, lt_no, lt_no]; omega
theorem rot_up {d dk : Array Rc} {a k : Nat} (hk : a ≤ k) (hs : k + 1 < dk.size) (h : ∀ x, dk[x]! = rotF d a (a + 1) (k + 1) x) (x : Nat) : (swp dk k (k + 1))[x]! = rotF d a (a + 1) (k + 1 + 1) x := by
  by_cases x1 : x = k
  · subst x1
    rw [swp_left _ _ _ (by omega) (by omega), h, rotF_hi (by omega) (by omega) (by omega), rotF_a (by omega) (by omega)]
    congr 1; omega
  · by_cases x2 : x = k + 1
    · subst x2
      rw [swp_right _ _ _ (by omega), h, rotF_b (by omega) (by omega), rotF_b (by omega) (by omega)]
      congr 1; omega
    · rw [swp_other _ _ _ _ x1 x2, h]
      by_cases x3 : x < a
      · rw [rotF_lo x3, rotF_lo x3]
      · by_cases x4 : x < k
        · rw [rotF_a (by omega) (by omega), rotF_a (by omega) (by omega)]
        · rw [rotF_hi (by omega) (by omega) (by omega), rotF_hi (by omega) (by omega) (by omega)]
theorem rot_down {d dk : Array Rc} {m k : Nat} (hk : k + 1 ≤ m) (hs : m < dk.size) (h : ∀ x, dk[x]! = rotF d (k + 1) m (m + 1) x) (x : Nat) : (swp dk (k + 1) k)[x]! = rotF d k m (m + 1) x := by
  by_cases x1 : x = k + 1
  · subst x1
    rw [swp_left _ _ _ (by omega) (by omega), h, rotF_lo (by omega), rotF_b (by omega) (by omega)]
    congr 1; omega
  · by_cases x2 : x = k
    · subst x2
      rw [swp_right _ _ _ (by omega), h, rotF_a (by omega) (by omega), rotF_a (by omega) (by omega)]
      congr 1; omega
    · rw [swp_other _ _ _ _ x1 x2, h]
      by_cases x3 : x < k
      · rw [rotF_lo (by omega), rotF_lo x3]
      · by_cases x4 : x < m + 1
        · rw [rotF_b (by omega) (by omega), rotF_b (by omega) (by omega)]
        · rw [rotF_hi (by omega) (by omega) (by omega), rotF_hi (by omega) (by omega) (by omega)]
def RotOk (P : Program) : Prop := (∀ args w, (callFunc 33 args).run P w = .ok (.enter 33 args) w) ∧
  ∀ (d : Array Rc) (N c g a m b : Nat) (w : World), HK w g d → N = d.size → a < m → m < b → b ≤ N → N ≤ 1000000 → Calls P 33 #[.slice (some ⟨g, 0, none⟩) N c, .int .i64 a, .int .i64 m, .int .i64 b, cmpV] w (Pst w g a b d fun d' => ∀ k, d'[k]! = rotF d a m b k)
def SymOk (P : Program) (f : Nat) : Prop := ∀ (d : Array Rc) (N c g a m b : Nat) (w : World), HK w g d → N = d.size → a < m → m < b → b ≤ N → N ≤ 1000000 → b - a ≤ f → SortedIn lt a m d → SortedIn lt m b d →
  Calls P 30 #[.slice (some ⟨g, 0, none⟩) N c, .int .i64 a, .int .i64 m, .int .i64 b, cmpV] w (Pst w g a b d fun d' => SortedIn lt a b d')
section
variable {P : Program} {wr : World} {g q : Nat} {d : Array Rc}
/-- The loads and the call of a comparison, in every later world. -/
structure CmpAt (P : Program) (wr : World) (g q i j : Nat) (v : Int) (ci cj : List Value) : Prop where
  l1 : ∀ p : Later wr, Sem.run P (loadCellsFrom ⟨g, i * q, none⟩ 0 q #[]) p.w' = .ok ci.toArray p.w'
  l2 : ∀ p : Later wr, Sem.run P (loadCellsFrom ⟨g, j * q, none⟩ 0 q #[]) p.w' = .ok cj.toArray p.w'
  m : ∀ p : Later wr, Calls P 19 #[.agg ci.toArray, .agg cj.toArray] p.w' fun e w'' => e = .returned (.int .i64 v) ∧ ∃ q : Later wr, w'' = q.w'
  n1 : ci.length = q
  n2 : cj.length = q
theorem cmp_at (HQ : Hid (q = 5)) (H : CmpOk P) (h : HK wr g d) {i j : Nat} (hi : i < d.size) (hj : j < d.size) : ∃ v ci cj, CmpAt P wr g q i j v ci cj ∧ lt d[i]! d[j]! = decide (v < 0) :=
  ⟨cfR d[i]! d[j]!, encR d[i]!, encR d[j]!, ⟨later_load HQ h hi, later_load HQ h hj, later_cmp H _ _, by rw [HQ.out]; rfl, by rw [HQ.out]; rfl⟩, rfl⟩
/-- An exchange of two, as the walk asks it. -/
structure SwpAt (P : Program) (W : World) (g q i j : Nat) (d : Array Rc) (ci cj : List Value) : Prop where
  l1 : Sem.run P (loadCellsFrom ⟨g, i * q, none⟩ 0 q #[]) W.drew = .ok ci.toArray W.drew
  l2 : Sem.run P (loadCellsFrom ⟨g, j * q, none⟩ 0 q #[]) W.drew = .ok cj.toArray W.drew
  s1 : Sem.run P (storeCells ⟨g, i * q, none⟩ cj 0) W.drew = .ok () (W.drew.setCells g (i * q) cj)
  s2 : Sem.run P (storeCells ⟨g, j * q, none⟩ ci 0) (W.drew.setCells g (i * q) cj) = .ok () ((W.drew.setCells g (i * q) cj).setCells g (j * q) ci)
  n1 : ci.length = q
  n2 : cj.length = q
  h : HK ((W.drew.setCells g (i * q) cj).setCells g (j * q) ci) g (swp d i j)
  md : Mod (fun k => k = g) W ((W.drew.setCells g (i * q) cj).setCells g (j * q) ci)
theorem swp_at (HQ : Hid (q = 5)) (h : HK wr g d) {i j : Nat} (hi : i < d.size) (hj : j < d.size) : ∃ ci cj, SwpAt P wr g q i j d ci cj := by
  obtain ⟨s1, s2, h3, h4⟩ := HK.swap P h.drew hi hj
  have l1 := h.drew.load P hi
  have l2 := h.drew.load P hj
  rw [← HQ.out] at s1 s2 h3 h4 l1 l2
  exact ⟨_, _, l1, l2, s1, s2, by rw [HQ.out]; rfl, by rw [HQ.out]; rfl, h3, ((Mod.refl _ wr).drew).then_ h4⟩
end
set_option maxRecDepth 100000 in
set_option maxHeartbeats 8000000 in
theorem symMerge_gen {P : Program} {q : Nat} (L : PK P q) (hq : q = 5) (F : P.funcs[30]? = some Try.f30) (hcmp : CmpOk P) (hrot : RotOk P)
    (es : ∀ args w, (callFunc 30 args).run P w = .ok (.enter 30 args) w) (f : Nat) (ih : ∀ k, k < f → SymOk P k) : SymOk P f := by
  intro d N c g a m b w h hN ham hmb hbN hm hf h1 h2
  have mixed := L.mixed; have t0 := L.t0; have a0 := L.a0; have z0 := L.z0; have v0 := L.v0; have t3 := L.t3; have a3 := L.a3; have z3 := L.z3; have v3 := L.v3; have t4 := L.t4; have a4 := L.a4; have z4 := L.z4; have v4 := L.v4; have t22 := L.t22; have a22 := L.a22; have z22 := L.z22; have v22 := L.v22; have t62 := L.t62; have a62 := L.a62; have z62 := L.z62; have v62 := L.v62; have aE := L.aE; have zE := L.zE
  have u22 := run_underlying L.t22
  clear L
  have HQ := Lib.hid hq
  clear hq
  have H := Lib.hid h
  have HN := Lib.hid hN
  have HC := Lib.hid hcmp
  have eg := hcmp.1
  have HR := Lib.hid hrot.2
  have er := hrot.1
  have HI := Lib.hid (fun (d : Array Rc) (a' m' b' : Nat) (w : World) (k1 : HK w g d) (k2 : N = d.size) (k3 : a' < m') (k4 : m' < b') (k5 : b' ≤ N) (k6 : b' - a' < b - a) (k7 : SortedIn lt a' m' d) (k8 : SortedIn lt m' b' d) => ih (b' - a') (by omega) d N c g a' m' b' w k1 k2 k3 k4 k5 hm (Nat.le_refl _) k7 k8)
  have HA := Lib.hid h1
  have HB := Lib.hid h2
  clear h hN hcmp hrot h1 h2 ih hf
  by_cases hone : m = a + 1
  · have em : (m : Int) - (a : Int) = 1 := by omega
    have HE := Lib.hid hone
    clear hone
    go_enter F, Try.ntmps30
    go_wp2
    go_loopw [10, 11] (fun vi vj wr => ∃ i j : Nat, m ≤ i ∧ i ≤ j ∧ j ≤ b ∧ vi = .int .i64 i ∧ vj = .int .i64 j ∧ HK wr g d ∧ Mod (fun j => j = g) w wr ∧ Hid ((i = m ∨ lt d[i - 1]! d[a]! = true) ∧ (j = b ∨ lt d[j]! d[a]! = false))) (fun vi vj _ => (intOf vj).toNat - (intOf vi).toNat)
    case atStart => exact ⟨m, b, by omega, by omega, by omega, rfl, rfl, H.out, Mod.refl _ _, ⟨.inl rfl, .inl rfl⟩⟩
    case round =>
      obtain ⟨i, j, hi, hij, hj, rfl, rfl, hH, hM, HV⟩ := hrel
      have HH := Lib.hid hH
      have HM := Lib.hid hM
      clear hH hM
      by_cases hlt : i < j

      · have hij1 : (i : Int) < (j : Int) := by omega
        go_upto_region 5 with (fail)
        obtain ⟨x, hx⟩ : ∃ x : Nat, ((i : Int) + (j : Int)) / 2 = (x : Int) := ⟨(i + j) / 2, by omega⟩
        have x1 : i ≤ x := by omega
        have x2 : x < j := by omega
        have x3 : x < N := by omega
        have x4 : (x : Int) < (N : Int) := by omega
        have x5 : (a : Int) < (N : Int) := by omega
        have x6 : a < N := by omega
        rw [hx]
        clear hx
        obtain ⟨v, ci, cj, hca, hv⟩ := cmp_at (P := P) HQ HC.out HH.out (i := x) (j := a) (by have := HN.out; omega) (by have := HN.out; omega)
        have HVV := Lib.hid hv
        have L1 := hca.l1
        have L2 := hca.l2
        have M := Lib.hid hca.m
        have n1 := hca.n1
        have n2 := hca.n2
        clear hca hv
        by_cases hv : v < 0
        · have HV2 := Lib.hid (show (x + 1 = m ∨ lt d[x + 1 - 1]! d[a]! = true) ∧ (j = b ∨ lt d[j]! d[a]! = false) from ⟨.inr (by rw [Nat.add_sub_cancel, HVV.out]; exact decide_eq_true hv), HV.out.2⟩)
          refine wp_region_later mixed (by kernel_rfl) ?_
          repeat (quiet_step (first | (go_at_fn 19; exact M.out _)))
          refine wpQuiet_nil ?_
          intro wq hw'
          obtain ⟨p, hp⟩ := hw'
          have HBQ := Lib.hid (show Below wr.heap.size wr wq from hp ▸ p.h)
          clear L1 L2 hp p
          have HH2 := Lib.hid (HH.out.below HBQ.out)
          have HM2 := Lib.hid (HM.out.then_ (Mod.none_ HBQ.out (fun j => j = g)))
          clear HVV HV M
          go_wp2
          go_roundw
          case rel => exact ⟨x + 1, j, by omega, by omega, by omega, by first | rfl | go_num, rfl, HH2.out, HM2.out, HV2.out⟩
          case measure => simp [intOf]; omega
        · have HV2 := Lib.hid (show (i = m ∨ lt d[i - 1]! d[a]! = true) ∧ (x = b ∨ lt d[x]! d[a]! = false) from ⟨HV.out.1, .inr (by rw [HVV.out]; exact decide_eq_false hv)⟩)
          refine wp_region_later mixed (by kernel_rfl) ?_
          repeat (quiet_step (first | (go_at_fn 19; exact M.out _)))
          refine wpQuiet_nil ?_
          intro wq hw'
          obtain ⟨p, hp⟩ := hw'
          have HBQ := Lib.hid (show Below wr.heap.size wr wq from hp ▸ p.h)
          clear L1 L2 hp p
          have HH2 := Lib.hid (HH.out.below HBQ.out)
          have HM2 := Lib.hid (HM.out.then_ (Mod.none_ HBQ.out (fun j => j = g)))
          clear HVV HV M
          go_wp2
          go_roundw
          case rel => exact ⟨i, x, by omega, by omega, by omega, rfl, by first | rfl | go_num, HH2.out, HM2.out, HV2.out⟩
          case measure => simp [intOf]; omega
      · obtain rfl : i = j := by omega
        have HP1 := Lib.hid (show i < b → lt d[i]! d[a]! = false from fun k => HV.out.2.elim (fun e => absurd e (by omega)) (fun e => e))
        have HP2 := Lib.hid (show a + 1 < i → lt d[i - 1]! d[a]! = true from fun k => HV.out.1.elim (fun e => absurd e (by have := HE.out; omega)) (fun e => e))
        have hi1 : (0 : Int) ≤ (i : Int) - 1 := by omega
        clear HV hij
        go_wp2
        go_loopw [13] (fun vk wr => ∃ (k : Nat) (dk : Array Rc), vk = .int .i64 k ∧ a ≤ k ∧ k + 1 ≤ i ∧ HK wr g dk ∧ Mod (fun j => j = g) w wr ∧ PermIn a b d dk ∧ Hid (∀ x, dk[x]! = rotF d a (a + 1) (k + 1) x)) (fun vk _ => i - (intOf vk).toNat)
        case atStart => exact ⟨a, d, rfl, Nat.le_refl _, by have := HE.out; omega, HH.out, HM.out, permIn_refl _ _ _, fun x => (rotF_id (Nat.le_succ _) (Nat.le_refl _) (.inr (Nat.le_refl _)) x).symm⟩
        case round =>
          clear HH HM
          obtain ⟨k, dk, rfl, hak, hki, hH, hM, hP, HD⟩ := hrel
          have HH := Lib.hid hH
          have HM := Lib.hid hM
          have HP := Lib.hid hP
          have HS := Lib.hid (HN.out.trans hP.1.symm)
          clear hH hM hP
          by_cases hlt2 : k + 1 < i
          · have hk1 : (k : Int) < (i : Int) - 1 := by omega
            have hk2 : (k : Int) + 1 < (N : Int) := by omega
            have hk3 : (k : Int) < (N : Int) := by omega
            obtain ⟨ci, cj, hsw⟩ := swp_at (P := P) HQ HH.out (i := k) (j := k + 1) (by have := HS.out; omega) (by have := HS.out; omega)
            have l1 := hsw.l1
            have l2 := hsw.l2
            have s1 := hsw.s1
            have s2 := hsw.s2
            have n1 := hsw.n1
            have n2 := hsw.n2
            have H3 := Lib.hid hsw.h
            have H4 := Lib.hid (HM.out.then_ hsw.md)
            have HD2 := Lib.hid (rot_up hak (by have := HS.out; omega) HD.out)
            clear hsw
            go_wp2
            go_big_region_o
            all_goals go_wp2
            go_roundw
            case rel => exact ⟨k + 1, swp dk k (k + 1), by go_num, by omega, by omega, H3.out, H4.out, permIn_trans _ _ _ _ _ HP.out (swp_permIn _ _ _ _ _ (by omega) (by omega) (by omega) (by omega) (by have := HS.out; omega)), HD2.out⟩
            case measure => simp [intOf]; omega
          · obtain rfl : i = k + 1 := by omega
            have hk1 : ¬ (k : Int) < (k : Int) + 1 - 1 := by omega
            have HF := Lib.hid (show SortedIn lt a b dk from one_left swo (HE.out ▸ HB.out) (HE.out ▸ hi) hj HP1.out HP2.out HD.out)
            go_wp2
            go_end0
            exact ⟨rfl, HM.out, dk, HH.out, HP.out, HF.out⟩
  · have em : ((m : Int) - (a : Int) == 1) = false := by rw [beq_eq_false_iff_ne]; omega
    have ema : a + 2 ≤ m := by omega
    clear hone
    by_cases hone : b = m + 1
    · have eb : (b : Int) - (m : Int) = 1 := by omega
      have HE := Lib.hid hone
      clear hone
      go_enter F, Try.ntmps30
      go_wp2
      go_loopw [14, 15] (fun vi vj wr => ∃ i j : Nat, a ≤ i ∧ i ≤ j ∧ j ≤ m ∧ vi = .int .i64 i ∧ vj = .int .i64 j ∧ HK wr g d ∧ Mod (fun j => j = g) w wr ∧ Hid ((i = a ∨ lt d[m]! d[i - 1]! = false) ∧ (j = m ∨ lt d[m]! d[j]! = true))) (fun vi vj _ => (intOf vj).toNat - (intOf vi).toNat)
      case atStart => exact ⟨a, m, by omega, by omega, by omega, rfl, rfl, H.out, Mod.refl _ _, ⟨.inl rfl, .inl rfl⟩⟩
      case round =>
        obtain ⟨i, j, hi, hij, hj, rfl, rfl, hH, hM, HV⟩ := hrel
        have HH := Lib.hid hH
        have HM := Lib.hid hM
        clear hH hM
        by_cases hlt : i < j
        · have hij1 : (i : Int) < (j : Int) := by omega
          go_upto_region 17 with (fail)
          obtain ⟨x, hx⟩ : ∃ x : Nat, ((i : Int) + (j : Int)) / 2 = (x : Int) := ⟨(i + j) / 2, by omega⟩
          have x1 : i ≤ x := by omega
          have x2 : x < j := by omega
          have x3 : x < N := by omega
          have x4 : (x : Int) < (N : Int) := by omega
          have x5 : (m : Int) < (N : Int) := by omega
          have x6 : m < N := by omega
          rw [hx]
          clear hx
          obtain ⟨v, ci, cj, hca, hv⟩ := cmp_at (P := P) HQ HC.out HH.out (i := m) (j := x) (by have := HN.out; omega) (by have := HN.out; omega)
          have HVV := Lib.hid hv
          have L1 := hca.l1
          have L2 := hca.l2
          have M := Lib.hid hca.m
          have n1 := hca.n1
          have n2 := hca.n2
          clear hca hv
          by_cases hv : v < 0
          · have HV2 := Lib.hid (show (i = a ∨ lt d[m]! d[i - 1]! = false) ∧ (x = m ∨ lt d[m]! d[x]! = true) from ⟨HV.out.1, .inr (by rw [HVV.out]; exact decide_eq_true hv)⟩)
            refine wp_region_later mixed (by kernel_rfl) ?_
            repeat (quiet_step (first | (go_at_fn 19; exact M.out _)))
            refine wpQuiet_nil ?_
            intro wq hw'
            obtain ⟨p, hp⟩ := hw'
            have HBQ := Lib.hid (show Below wr.heap.size wr wq from hp ▸ p.h)
            clear L1 L2 hp p
            have HH2 := Lib.hid (HH.out.below HBQ.out)
            have HM2 := Lib.hid (HM.out.then_ (Mod.none_ HBQ.out (fun j => j = g)))
            clear HVV HV M
            go_wp2
            go_roundw
            case rel => exact ⟨i, x, by omega, by omega, by omega, rfl, by first | rfl | go_num, HH2.out, HM2.out, HV2.out⟩
            case measure => simp [intOf]; omega
          · have HV2 := Lib.hid (show (x + 1 = a ∨ lt d[m]! d[x + 1 - 1]! = false) ∧ (j = m ∨ lt d[m]! d[j]! = true) from ⟨.inr (by rw [Nat.add_sub_cancel, HVV.out]; exact decide_eq_false hv), HV.out.2⟩)
            refine wp_region_later mixed (by kernel_rfl) ?_
            repeat (quiet_step (first | (go_at_fn 19; exact M.out _)))
            refine wpQuiet_nil ?_
            intro wq hw'
            obtain ⟨p, hp⟩ := hw'
            have HBQ := Lib.hid (show Below wr.heap.size wr wq from hp ▸ p.h)
            clear L1 L2 hp p
            have HH2 := Lib.hid (HH.out.below HBQ.out)
            have HM2 := Lib.hid (HM.out.then_ (Mod.none_ HBQ.out (fun j => j = g)))
            clear HVV HV M
            go_wp2
            go_roundw
            case rel => exact ⟨x + 1, j, by omega, by omega, by omega, by first | rfl | go_num, rfl, HH2.out, HM2.out, HV2.out⟩
            case measure => simp [intOf]; omega
        · obtain rfl : i = j := by omega
          have HP1 := Lib.hid (show a < i → lt d[m]! d[i - 1]! = false from fun k => HV.out.1.elim (fun e => absurd e (by omega)) (fun e => e))
          have HP2 := Lib.hid (show i < m → lt d[m]! d[i]! = true from fun k => HV.out.2.elim (fun e => absurd e (by omega)) (fun e => e))
          clear HV hij
          go_wp2
          go_loopw [17] (fun vk wr => ∃ (k : Nat) (dk : Array Rc), vk = .int .i64 k ∧ i ≤ k ∧ k ≤ m ∧ HK wr g dk ∧ Mod (fun j => j = g) w wr ∧ PermIn a b d dk ∧ Hid (∀ x, dk[x]! = rotF d k m (m + 1) x)) (fun vk _ => (intOf vk).toNat - i)
          case atStart => exact ⟨m, d, rfl, hj, Nat.le_refl _, HH.out, HM.out, permIn_refl _ _ _, fun x => (rotF_id (Nat.le_refl _) (Nat.le_succ _) (.inl (Nat.le_refl _)) x).symm⟩
          case round =>
            clear HH HM
            obtain ⟨k, dk, rfl, hak, hki, hH, hM, hP, HD⟩ := hrel
            have HH := Lib.hid hH
            have HM := Lib.hid hM
            have HP := Lib.hid hP
            have HS := Lib.hid (HN.out.trans hP.1.symm)
            clear hH hM hP
            by_cases hlt2 : i < k
            · obtain ⟨y, rfl⟩ : ∃ y, k = y + 1 := ⟨k - 1, by omega⟩
              have hk1 : (i : Int) < (y : Int) + 1 := by omega
              have hk2 : (y : Int) + 1 < (N : Int) := by omega
              have hk3 : (y : Int) < (N : Int) := by omega
              have hk4 : IntKind.i64.wrap (y : Int) = (y : Int) := by rw [IntKind.wrap_i64]; omega
              have hk5 : (0 : Int) ≤ (y : Int) + 1 := by omega
              have hk6 : ((y : Int) + 1).toNat = y + 1 := by omega
              obtain ⟨ci, cj, hsw⟩ := swp_at (P := P) HQ HH.out (i := y + 1) (j := y) (by have := HS.out; have := HE.out; omega) (by have := HS.out; have := HE.out; omega)
              have l1 := hsw.l1
              have l2 := hsw.l2
              have s1 := hsw.s1
              have s2 := hsw.s2
              have n1 := hsw.n1
              have n2 := hsw.n2
              have H3 := Lib.hid hsw.h
              have H4 := Lib.hid (HM.out.then_ hsw.md)
              have HD2 := Lib.hid (rot_down (by omega) (by have := HS.out; have := HE.out; omega) HD.out)
              have HPM := Lib.hid (permIn_trans _ _ _ _ _ HP.out (swp_permIn dk a b (y + 1) y (by omega) (by have := HE.out; omega) (by omega) (by have := HE.out; omega) (by have := HS.out; omega)))
              clear hsw
              go_wp2
              go_big_region_o
              all_goals go_wp2
              go_roundw
              case rel => exact ⟨y, swp dk (y + 1) y, by first | rfl | go_num | (congr 1; omega), by omega, by omega, H3.out, H4.out, HPM.out, HD2.out⟩
              case measure => simp [intOf]; omega
            · obtain rfl : i = k := by omega
              have HF := Lib.hid (show SortedIn lt a b dk from HE.out ▸ one_right swo HA.out hi hki HP1.out HP2.out HD.out)
              go_wp2
              go_end0
              exact ⟨rfl, HM.out, dk, HH.out, HP.out, HF.out⟩
    · have eb : ((b : Int) - (m : Int) == 1) = false := by rw [beq_eq_false_iff_ne]; omega
      have emb : m + 2 ≤ b := by omega
      clear hone
      go_enter F, Try.ntmps30
      go_upto_region 25 with (fail)
      obtain ⟨y, hy⟩ : ∃ y : Nat, ((a : Int) + (b : Int)) / 2 = (y : Int) := ⟨(a + b) / 2, by omega⟩
      have y1 : 2 * y ≤ a + b := by omega
      have y2 : a + b ≤ 2 * y + 1 := by omega
      rw [hy]
      clear hy
      by_cases hmy : y < m
      · go_wp2
        go_loopw [20, 21] (fun vi vj wr => ∃ s r : Nat, y + m - b ≤ s ∧ s ≤ r ∧ r ≤ y ∧ vi = .int .i64 s ∧ vj = .int .i64 r ∧ HK wr g d ∧ Mod (fun j => j = g) w wr ∧ Hid ((s = y + m - b ∨ lt d[y + m - 1 - (s - 1)]! d[s - 1]! = false) ∧ (r = y ∨ lt d[y + m - 1 - r]! d[r]! = true))) (fun vi vj _ => (intOf vj).toNat - (intOf vi).toNat)
        case atStart => exact ⟨y + m - b, y, by omega, by omega, by omega, by first | rfl | go_num | (congr 1; omega), rfl, H.out, Mod.refl _ _, ⟨.inl rfl, .inl rfl⟩⟩
        case round =>
          obtain ⟨s, r, hlo, hsr, hhi, rfl, rfl, hH, hM, HV⟩ := hrel
          have HH := Lib.hid hH
          have HM := Lib.hid hM
          clear hH hM
          by_cases hlt : s < r
          · have hij1 : (s : Int) < (r : Int) := by omega
            go_upto_region 35 with (fail)
            obtain ⟨x, hx⟩ : ∃ x : Nat, ((s : Int) + (r : Int)) / 2 = (x : Int) := ⟨(s + r) / 2, by omega⟩
            have x1 : s ≤ x := by omega
            have x2 : x < r := by omega
            have x3 : x < N := by omega
            have x4 : (x : Int) < (N : Int) := by omega
            rw [hx]
            clear hx
            obtain ⟨z, hz⟩ : ∃ z : Nat, (y : Int) + (m : Int) - 1 - (x : Int) = (z : Int) := ⟨y + m - 1 - x, by omega⟩
            have hz2 : y + m - 1 - x = z := by omega
            have zb1 : z < N := by omega
            have zb2 : (z : Int) < (N : Int) := by omega
            have zb3 : IntKind.i64.wrap (z : Int) = (z : Int) := by rw [IntKind.wrap_i64]; omega
            obtain ⟨v, ci, cj, hca, hv⟩ := cmp_at (P := P) HQ HC.out HH.out (i := z) (j := x) (by have := HN.out; omega) (by have := HN.out; omega)
            have HVV := Lib.hid hv
            have HZ2 := Lib.hid hz2
            have L1 := hca.l1
            have L2 := hca.l2
            have M := Lib.hid hca.m
            have n1 := hca.n1
            have n2 := hca.n2
            clear hca hv hz2
            by_cases hv : v < 0
            · have HV2 := Lib.hid (show (s = y + m - b ∨ lt d[y + m - 1 - (s - 1)]! d[s - 1]! = false) ∧ (x = y ∨ lt d[y + m - 1 - x]! d[x]! = true) from ⟨HV.out.1, .inr (by rw [HZ2.out, HVV.out]; exact decide_eq_true hv)⟩)
              refine wp_region_later mixed (by kernel_rfl) ?_
              repeat (quiet_step (first | (go_at_fn 19; exact M.out _)))
              refine wpQuiet_nil ?_
              intro wq hw'
              obtain ⟨p, hp⟩ := hw'
              have HBQ := Lib.hid (show Below wr.heap.size wr wq from hp ▸ p.h)
              clear L1 L2 hp p
              have HH2 := Lib.hid (HH.out.below HBQ.out)
              have HM2 := Lib.hid (HM.out.then_ (Mod.none_ HBQ.out (fun j => j = g)))
              clear HVV HV M hz HZ2
              go_wp2
              go_roundw
              case rel => exact ⟨s, x, by omega, by omega, by omega, rfl, by first | rfl | go_num, HH2.out, HM2.out, HV2.out⟩
              case measure => simp [intOf]; omega
            · have HV2 := Lib.hid (show (x + 1 = y + m - b ∨ lt d[y + m - 1 - (x + 1 - 1)]! d[x + 1 - 1]! = false) ∧ (r = y ∨ lt d[y + m - 1 - r]! d[r]! = true) from ⟨.inr (by rw [Nat.add_sub_cancel, HZ2.out, HVV.out]; exact decide_eq_false hv), HV.out.2⟩)
              refine wp_region_later mixed (by kernel_rfl) ?_
              repeat (quiet_step (first | (go_at_fn 19; exact M.out _)))
              refine wpQuiet_nil ?_
              intro wq hw'
              obtain ⟨p, hp⟩ := hw'
              have HBQ := Lib.hid (show Below wr.heap.size wr wq from hp ▸ p.h)
              clear L1 L2 hp p
              have HH2 := Lib.hid (HH.out.below HBQ.out)
              have HM2 := Lib.hid (HM.out.then_ (Mod.none_ HBQ.out (fun j => j = g)))
              clear HVV HV M hz HZ2
              go_wp2
              go_roundw
              case rel => exact ⟨x + 1, r, by omega, by omega, by omega, by first | rfl | go_num, rfl, HH2.out, HM2.out, HV2.out⟩
              case measure => simp [intOf]; omega
          · obtain rfl : s = r := by omega
            obtain ⟨e, he⟩ : ∃ e : Nat, (y : Int) + (m : Int) - (s : Int) = (e : Int) := ⟨y + m - s, by omega⟩
            have HV1 := Lib.hid (show a < s → e < b → lt d[e]! d[s - 1]! = false from fun k1 k2 => HV.out.1.elim (fun k => absurd k (by omega)) (fun k => by rwa [show y + m - 1 - (s - 1) = e by omega] at k))
            have HV2 := Lib.hid (show s < m → m < e → lt d[e - 1]! d[s]! = true from fun k1 k2 => HV.out.2.elim (fun k => absurd k (by omega)) (fun k => by rwa [show y + m - 1 - s = e - 1 by omega] at k))
            clear HV hsr
            have k0 : (s < m) := by omega
            by_cases k1 : s < y
            · by_cases k2 : a < s
              · by_cases k3 : e < b
                · have f1 : (s : Int) < (m : Int) := by omega
                  have f2 : (m : Int) < (e : Int) := by omega
                  have f3 : (a : Int) < (s : Int) := by omega
                  have f4 : (s : Int) < (y : Int) := by omega
                  have f5 : (y : Int) < (e : Int) := by omega
                  have f6 : (e : Int) < (b : Int) := by omega
                  have HK1 := Lib.hid (HR.out d N c g s m e wr HH.out HN.out (by omega) (by omega) (by omega) hm)
                  go_wp2_with fail
                  refine HK1.out.mono ?_
                  rintro _ w2 ⟨rfl, hM2, d2, hH2, hP2, hd2⟩
                  have HH2 := Lib.hid hH2
                  have HM2 := Lib.hid (HM.out.then_ hM2)
                  have HP2 := Lib.hid (permIn_mono d d2 s e a b (by omega) (by omega) (by have := HN.out; omega) hP2)
                  have HT := Lib.hid (cut_of swo HA.out HB.out (s := s) (e := e) (mid := y) (by omega) (by omega) (by omega) (by omega) (by omega) HV1.out HV2.out hd2)
                  clear hM2 hH2 hP2 hd2 HK1
                  have HS2 := Lib.hid (HN.out.trans HP2.out.1.symm)
                  have HK2 := Lib.hid (HI.out d2 a s y w2 HH2.out HS2.out (by omega) (by omega) (by omega) (by omega) HT.out.s1 HT.out.s2)
                  go_wp2_with fail
                  refine HK2.out.mono ?_
                  rintro _ w3 ⟨rfl, hM3, d3, hH3, hP3, hs3⟩
                  have HH3 := Lib.hid hH3
                  have HM3 := Lib.hid (HM2.out.then_ hM3)
                  have HP3 := Lib.hid hP3
                  have HS3 := Lib.hid hs3
                  clear hM3 hH3 hP3 hs3 HK2
                  have HK3 := Lib.hid (HI.out d3 y e b w3 HH3.out (HS2.out.trans HP3.out.1.symm) (by omega) (by omega) (by omega) (by omega) (sorted_other HP3.out HT.out.s3 (.inr (Nat.le_refl _))) (sorted_other HP3.out HT.out.s4 (.inr (by omega))))
                  go_wp2_with fail
                  refine HK3.out.mono ?_
                  rintro _ w4 ⟨rfl, hM4, d4, hH4, hP4, hs4⟩
                  have HF := Lib.hid (show Pst w g a b d (fun d' => SortedIn lt a b d') (.returned (.tuple #[])) w4 from ⟨rfl, HM3.out.then_ hM4, d4, hH4, permIn_trans _ _ _ _ _ HP2.out (permIn_trans _ _ _ _ _ (permIn_mono _ _ a y a b (Nat.le_refl _) (by omega) (by have := HS2.out; omega) HP3.out) (permIn_mono _ _ y b a b (by omega) (Nat.le_refl _) (by have := HS2.out; have := HP3.out.1; omega) hP4)), HT.out.done (by have := HS2.out; omega) (by omega) (by omega) HP3.out HS3.out hP4 hs4⟩)
                  clear hM4 hH4 hP4 hs4 HK3
                  go_wp2
                  go_end0
                  exact HF.out
                · have f1 : (s : Int) < (m : Int) := by omega
                  have f2 : (m : Int) < (e : Int) := by omega
                  have f3 : (a : Int) < (s : Int) := by omega
                  have f4 : (s : Int) < (y : Int) := by omega
                  have f5 : (y : Int) < (e : Int) := by omega
                  have f6 : ¬ (e : Int) < (b : Int) := by omega
                  have HK1 := Lib.hid (HR.out d N c g s m e wr HH.out HN.out (by omega) (by omega) (by omega) hm)
                  go_wp2_with fail
                  refine HK1.out.mono ?_
                  rintro _ w2 ⟨rfl, hM2, d2, hH2, hP2, hd2⟩
                  have HH2 := Lib.hid hH2
                  have HM2 := Lib.hid (HM.out.then_ hM2)
                  have HP2 := Lib.hid (permIn_mono d d2 s e a b (by omega) (by omega) (by have := HN.out; omega) hP2)
                  have HT := Lib.hid (cut_of swo HA.out HB.out (s := s) (e := e) (mid := y) (by omega) (by omega) (by omega) (by omega) (by omega) HV1.out HV2.out hd2)
                  clear hM2 hH2 hP2 hd2 HK1
                  have HS2 := Lib.hid (HN.out.trans HP2.out.1.symm)
                  have HK2 := Lib.hid (HI.out d2 a s y w2 HH2.out HS2.out (by omega) (by omega) (by omega) (by omega) HT.out.s1 HT.out.s2)
                  go_wp2_with fail
                  refine HK2.out.mono ?_
                  rintro _ w3 ⟨rfl, hM3, d3, hH3, hP3, hs3⟩
                  have HH3 := Lib.hid hH3
                  have HM3 := Lib.hid (HM2.out.then_ hM3)
                  have HP3 := Lib.hid hP3
                  have HS3 := Lib.hid hs3
                  clear hM3 hH3 hP3 hs3 HK2
                  have HF := Lib.hid (show Pst w g a b d (fun d' => SortedIn lt a b d') (.returned (.tuple #[])) w3 from ⟨rfl, HM3.out, d3, HH3.out, permIn_trans _ _ _ _ _ HP2.out (permIn_mono _ _ a y a b (Nat.le_refl _) (by omega) (by have := HS2.out; omega) HP3.out), HT.out.done (by have := HS2.out; omega) (by omega) (by omega) HP3.out HS3.out (permIn_refl _ _ _) (sorted_mono (sorted_other HP3.out HT.out.s3 (.inr (Nat.le_refl _))) (by omega) (by omega))⟩)
                  go_wp2
                  go_end0
                  exact HF.out
              · have k3 : ¬ (e < b) := by omega
                have f1 : (s : Int) < (m : Int) := by omega
                have f2 : (m : Int) < (e : Int) := by omega
                have f3 : ¬ (a : Int) < (s : Int) := by omega
                have f4 : (s : Int) < (y : Int) := by omega
                have f5 : (y : Int) < (e : Int) := by omega
                have f6 : ¬ (e : Int) < (b : Int) := by omega
                have HK1 := Lib.hid (HR.out d N c g s m e wr HH.out HN.out (by omega) (by omega) (by omega) hm)
                go_wp2_with fail
                refine HK1.out.mono ?_
                rintro _ w2 ⟨rfl, hM2, d2, hH2, hP2, hd2⟩
                have HH2 := Lib.hid hH2
                have HM2 := Lib.hid (HM.out.then_ hM2)
                have HP2 := Lib.hid (permIn_mono d d2 s e a b (by omega) (by omega) (by have := HN.out; omega) hP2)
                have HT := Lib.hid (cut_of swo HA.out HB.out (s := s) (e := e) (mid := y) (by omega) (by omega) (by omega) (by omega) (by omega) HV1.out HV2.out hd2)
                clear hM2 hH2 hP2 hd2 HK1
                have HS2 := Lib.hid (HN.out.trans HP2.out.1.symm)
                have HH3 := Lib.hid HH2.out
                have HM3 := Lib.hid HM2.out
                have HP3 := Lib.hid (permIn_refl d2 a y)
                have HS3 := Lib.hid (show SortedIn lt a y d2 from sorted_mono HT.out.s2 (by omega) (Nat.le_refl _))
                have HF := Lib.hid (show Pst w g a b d (fun d' => SortedIn lt a b d') (.returned (.tuple #[])) w2 from ⟨rfl, HM3.out, d2, HH3.out, permIn_trans _ _ _ _ _ HP2.out (permIn_mono _ _ a y a b (Nat.le_refl _) (by omega) (by have := HS2.out; omega) HP3.out), HT.out.done (by have := HS2.out; omega) (by omega) (by omega) HP3.out HS3.out (permIn_refl _ _ _) (sorted_mono (sorted_other HP3.out HT.out.s3 (.inr (Nat.le_refl _))) (by omega) (by omega))⟩)
                go_wp2
                go_end0
                exact HF.out
            · have k2 : (a < s) := by omega
              have k3 : (e < b) := by omega
              have f1 : (s : Int) < (m : Int) := by omega
              have f2 : ¬ (m : Int) < (e : Int) := by omega
              have f3 : (a : Int) < (s : Int) := by omega
              have f4 : ¬ (s : Int) < (y : Int) := by omega
              have f5 : (y : Int) < (e : Int) := by omega
              have f6 : (e : Int) < (b : Int) := by omega
              have HH2 := Lib.hid HH.out
              have HM2 := Lib.hid HM.out
              have HP2 := Lib.hid (permIn_refl d a b)
              have HT := Lib.hid (cut_of (d' := d) swo HA.out HB.out (s := s) (e := e) (mid := y) (by omega) (by omega) (by omega) (by omega) (by omega) HV1.out HV2.out (fun k => (rotF_id (by omega) (by omega) (by omega) k).symm))
              have HS2 := Lib.hid (HN.out.trans HP2.out.1.symm)
              have HH3 := Lib.hid HH2.out
              have HM3 := Lib.hid HM2.out
              have HP3 := Lib.hid (permIn_refl d a y)
              have HS3 := Lib.hid (show SortedIn lt a y d from sorted_mono HT.out.s1 (Nat.le_refl _) (by omega))
              have HK3 := Lib.hid (HI.out d y e b wr HH3.out (HS2.out.trans HP3.out.1.symm) (by omega) (by omega) (by omega) (by omega) (sorted_other HP3.out HT.out.s3 (.inr (Nat.le_refl _))) (sorted_other HP3.out HT.out.s4 (.inr (by omega))))
              go_wp2_with fail
              refine HK3.out.mono ?_
              rintro _ w4 ⟨rfl, hM4, d4, hH4, hP4, hs4⟩
              have HF := Lib.hid (show Pst w g a b d (fun d' => SortedIn lt a b d') (.returned (.tuple #[])) w4 from ⟨rfl, HM3.out.then_ hM4, d4, hH4, permIn_trans _ _ _ _ _ HP2.out (permIn_trans _ _ _ _ _ (permIn_mono _ _ a y a b (Nat.le_refl _) (by omega) (by have := HS2.out; omega) HP3.out) (permIn_mono _ _ y b a b (by omega) (Nat.le_refl _) (by have := HS2.out; have := HP3.out.1; omega) hP4)), HT.out.done (by have := HS2.out; omega) (by omega) (by omega) HP3.out HS3.out hP4 hs4⟩)
              clear hM4 hH4 hP4 hs4 HK3
              go_wp2
              go_end0
              exact HF.out
      · go_wp2
        go_loopw [20, 21] (fun vi vj wr => ∃ s r : Nat, a ≤ s ∧ s ≤ r ∧ r ≤ m ∧ vi = .int .i64 s ∧ vj = .int .i64 r ∧ HK wr g d ∧ Mod (fun j => j = g) w wr ∧ Hid ((s = a ∨ lt d[y + m - 1 - (s - 1)]! d[s - 1]! = false) ∧ (r = m ∨ lt d[y + m - 1 - r]! d[r]! = true))) (fun vi vj _ => (intOf vj).toNat - (intOf vi).toNat)
        case atStart => exact ⟨a, m, by omega, by omega, by omega, by first | rfl | go_num | (congr 1; omega), rfl, H.out, Mod.refl _ _, ⟨.inl rfl, .inl rfl⟩⟩
        case round =>
          obtain ⟨s, r, hlo, hsr, hhi, rfl, rfl, hH, hM, HV⟩ := hrel
          have HH := Lib.hid hH
          have HM := Lib.hid hM
          clear hH hM
          by_cases hlt : s < r
          · have hij1 : (s : Int) < (r : Int) := by omega
            go_upto_region 35 with (fail)
            obtain ⟨x, hx⟩ : ∃ x : Nat, ((s : Int) + (r : Int)) / 2 = (x : Int) := ⟨(s + r) / 2, by omega⟩
            have x1 : s ≤ x := by omega
            have x2 : x < r := by omega
            have x3 : x < N := by omega
            have x4 : (x : Int) < (N : Int) := by omega
            rw [hx]
            clear hx
            obtain ⟨z, hz⟩ : ∃ z : Nat, (y : Int) + (m : Int) - 1 - (x : Int) = (z : Int) := ⟨y + m - 1 - x, by omega⟩
            have hz2 : y + m - 1 - x = z := by omega
            have zb1 : z < N := by omega
            have zb2 : (z : Int) < (N : Int) := by omega
            have zb3 : IntKind.i64.wrap (z : Int) = (z : Int) := by rw [IntKind.wrap_i64]; omega
            obtain ⟨v, ci, cj, hca, hv⟩ := cmp_at (P := P) HQ HC.out HH.out (i := z) (j := x) (by have := HN.out; omega) (by have := HN.out; omega)
            have HVV := Lib.hid hv
            have HZ2 := Lib.hid hz2
            have L1 := hca.l1
            have L2 := hca.l2
            have M := Lib.hid hca.m
            have n1 := hca.n1
            have n2 := hca.n2
            clear hca hv hz2
            by_cases hv : v < 0
            · have HV2 := Lib.hid (show (s = a ∨ lt d[y + m - 1 - (s - 1)]! d[s - 1]! = false) ∧ (x = m ∨ lt d[y + m - 1 - x]! d[x]! = true) from ⟨HV.out.1, .inr (by rw [HZ2.out, HVV.out]; exact decide_eq_true hv)⟩)
              refine wp_region_later mixed (by kernel_rfl) ?_
              repeat (quiet_step (first | (go_at_fn 19; exact M.out _)))
              refine wpQuiet_nil ?_
              intro wq hw'
              obtain ⟨p, hp⟩ := hw'
              have HBQ := Lib.hid (show Below wr.heap.size wr wq from hp ▸ p.h)
              clear L1 L2 hp p
              have HH2 := Lib.hid (HH.out.below HBQ.out)
              have HM2 := Lib.hid (HM.out.then_ (Mod.none_ HBQ.out (fun j => j = g)))
              clear HVV HV M hz HZ2
              go_wp2
              go_roundw
              case rel => exact ⟨s, x, by omega, by omega, by omega, rfl, by first | rfl | go_num, HH2.out, HM2.out, HV2.out⟩
              case measure => simp [intOf]; omega
            · have HV2 := Lib.hid (show (x + 1 = a ∨ lt d[y + m - 1 - (x + 1 - 1)]! d[x + 1 - 1]! = false) ∧ (r = m ∨ lt d[y + m - 1 - r]! d[r]! = true) from ⟨.inr (by rw [Nat.add_sub_cancel, HZ2.out, HVV.out]; exact decide_eq_false hv), HV.out.2⟩)
              refine wp_region_later mixed (by kernel_rfl) ?_
              repeat (quiet_step (first | (go_at_fn 19; exact M.out _)))
              refine wpQuiet_nil ?_
              intro wq hw'
              obtain ⟨p, hp⟩ := hw'
              have HBQ := Lib.hid (show Below wr.heap.size wr wq from hp ▸ p.h)
              clear L1 L2 hp p
              have HH2 := Lib.hid (HH.out.below HBQ.out)
              have HM2 := Lib.hid (HM.out.then_ (Mod.none_ HBQ.out (fun j => j = g)))
              clear HVV HV M hz HZ2
              go_wp2
              go_roundw
              case rel => exact ⟨x + 1, r, by omega, by omega, by omega, by first | rfl | go_num, rfl, HH2.out, HM2.out, HV2.out⟩
              case measure => simp [intOf]; omega
          · obtain rfl : s = r := by omega
            obtain ⟨e, he⟩ : ∃ e : Nat, (y : Int) + (m : Int) - (s : Int) = (e : Int) := ⟨y + m - s, by omega⟩
            have HV1 := Lib.hid (show a < s → e < b → lt d[e]! d[s - 1]! = false from fun k1 k2 => HV.out.1.elim (fun k => absurd k (by omega)) (fun k => by rwa [show y + m - 1 - (s - 1) = e by omega] at k))
            have HV2 := Lib.hid (show s < m → m < e → lt d[e - 1]! d[s]! = true from fun k1 k2 => HV.out.2.elim (fun k => absurd k (by omega)) (fun k => by rwa [show y + m - 1 - s = e - 1 by omega] at k))
            clear HV hsr
            by_cases k0 : s < m
            · have k1 : (s < y) := by omega
              by_cases k2 : a < s
              · have k3 : (e < b) := by omega
                have f1 : (s : Int) < (m : Int) := by omega
                have f2 : (m : Int) < (e : Int) := by omega
                have f3 : (a : Int) < (s : Int) := by omega
                have f4 : (s : Int) < (y : Int) := by omega
                have f5 : (y : Int) < (e : Int) := by omega
                have f6 : (e : Int) < (b : Int) := by omega
                have HK1 := Lib.hid (HR.out d N c g s m e wr HH.out HN.out (by omega) (by omega) (by omega) hm)
                go_wp2_with fail
                refine HK1.out.mono ?_
                rintro _ w2 ⟨rfl, hM2, d2, hH2, hP2, hd2⟩
                have HH2 := Lib.hid hH2
                have HM2 := Lib.hid (HM.out.then_ hM2)
                have HP2 := Lib.hid (permIn_mono d d2 s e a b (by omega) (by omega) (by have := HN.out; omega) hP2)
                have HT := Lib.hid (cut_of swo HA.out HB.out (s := s) (e := e) (mid := y) (by omega) (by omega) (by omega) (by omega) (by omega) HV1.out HV2.out hd2)
                clear hM2 hH2 hP2 hd2 HK1
                have HS2 := Lib.hid (HN.out.trans HP2.out.1.symm)
                have HK2 := Lib.hid (HI.out d2 a s y w2 HH2.out HS2.out (by omega) (by omega) (by omega) (by omega) HT.out.s1 HT.out.s2)
                go_wp2_with fail
                refine HK2.out.mono ?_
                rintro _ w3 ⟨rfl, hM3, d3, hH3, hP3, hs3⟩
                have HH3 := Lib.hid hH3
                have HM3 := Lib.hid (HM2.out.then_ hM3)
                have HP3 := Lib.hid hP3
                have HS3 := Lib.hid hs3
                clear hM3 hH3 hP3 hs3 HK2
                have HK3 := Lib.hid (HI.out d3 y e b w3 HH3.out (HS2.out.trans HP3.out.1.symm) (by omega) (by omega) (by omega) (by omega) (sorted_other HP3.out HT.out.s3 (.inr (Nat.le_refl _))) (sorted_other HP3.out HT.out.s4 (.inr (by omega))))
                go_wp2_with fail
                refine HK3.out.mono ?_
                rintro _ w4 ⟨rfl, hM4, d4, hH4, hP4, hs4⟩
                have HF := Lib.hid (show Pst w g a b d (fun d' => SortedIn lt a b d') (.returned (.tuple #[])) w4 from ⟨rfl, HM3.out.then_ hM4, d4, hH4, permIn_trans _ _ _ _ _ HP2.out (permIn_trans _ _ _ _ _ (permIn_mono _ _ a y a b (Nat.le_refl _) (by omega) (by have := HS2.out; omega) HP3.out) (permIn_mono _ _ y b a b (by omega) (Nat.le_refl _) (by have := HS2.out; have := HP3.out.1; omega) hP4)), HT.out.done (by have := HS2.out; omega) (by omega) (by omega) HP3.out HS3.out hP4 hs4⟩)
                clear hM4 hH4 hP4 hs4 HK3
                go_wp2
                go_end0
                exact HF.out
              · by_cases k3 : e < b
                · have f1 : (s : Int) < (m : Int) := by omega
                  have f2 : (m : Int) < (e : Int) := by omega
                  have f3 : ¬ (a : Int) < (s : Int) := by omega
                  have f4 : (s : Int) < (y : Int) := by omega
                  have f5 : (y : Int) < (e : Int) := by omega
                  have f6 : (e : Int) < (b : Int) := by omega
                  have HK1 := Lib.hid (HR.out d N c g s m e wr HH.out HN.out (by omega) (by omega) (by omega) hm)
                  go_wp2_with fail
                  refine HK1.out.mono ?_
                  rintro _ w2 ⟨rfl, hM2, d2, hH2, hP2, hd2⟩
                  have HH2 := Lib.hid hH2
                  have HM2 := Lib.hid (HM.out.then_ hM2)
                  have HP2 := Lib.hid (permIn_mono d d2 s e a b (by omega) (by omega) (by have := HN.out; omega) hP2)
                  have HT := Lib.hid (cut_of swo HA.out HB.out (s := s) (e := e) (mid := y) (by omega) (by omega) (by omega) (by omega) (by omega) HV1.out HV2.out hd2)
                  clear hM2 hH2 hP2 hd2 HK1
                  have HS2 := Lib.hid (HN.out.trans HP2.out.1.symm)
                  have HH3 := Lib.hid HH2.out
                  have HM3 := Lib.hid HM2.out
                  have HP3 := Lib.hid (permIn_refl d2 a y)
                  have HS3 := Lib.hid (show SortedIn lt a y d2 from sorted_mono HT.out.s2 (by omega) (Nat.le_refl _))
                  have HK3 := Lib.hid (HI.out d2 y e b w2 HH3.out (HS2.out.trans HP3.out.1.symm) (by omega) (by omega) (by omega) (by omega) (sorted_other HP3.out HT.out.s3 (.inr (Nat.le_refl _))) (sorted_other HP3.out HT.out.s4 (.inr (by omega))))
                  go_wp2_with fail
                  refine HK3.out.mono ?_
                  rintro _ w4 ⟨rfl, hM4, d4, hH4, hP4, hs4⟩
                  have HF := Lib.hid (show Pst w g a b d (fun d' => SortedIn lt a b d') (.returned (.tuple #[])) w4 from ⟨rfl, HM3.out.then_ hM4, d4, hH4, permIn_trans _ _ _ _ _ HP2.out (permIn_trans _ _ _ _ _ (permIn_mono _ _ a y a b (Nat.le_refl _) (by omega) (by have := HS2.out; omega) HP3.out) (permIn_mono _ _ y b a b (by omega) (Nat.le_refl _) (by have := HS2.out; have := HP3.out.1; omega) hP4)), HT.out.done (by have := HS2.out; omega) (by omega) (by omega) HP3.out HS3.out hP4 hs4⟩)
                  clear hM4 hH4 hP4 hs4 HK3
                  go_wp2
                  go_end0
                  exact HF.out
                · have f1 : (s : Int) < (m : Int) := by omega
                  have f2 : (m : Int) < (e : Int) := by omega
                  have f3 : ¬ (a : Int) < (s : Int) := by omega
                  have f4 : (s : Int) < (y : Int) := by omega
                  have f5 : (y : Int) < (e : Int) := by omega
                  have f6 : ¬ (e : Int) < (b : Int) := by omega
                  have HK1 := Lib.hid (HR.out d N c g s m e wr HH.out HN.out (by omega) (by omega) (by omega) hm)
                  go_wp2_with fail
                  refine HK1.out.mono ?_
                  rintro _ w2 ⟨rfl, hM2, d2, hH2, hP2, hd2⟩
                  have HH2 := Lib.hid hH2
                  have HM2 := Lib.hid (HM.out.then_ hM2)
                  have HP2 := Lib.hid (permIn_mono d d2 s e a b (by omega) (by omega) (by have := HN.out; omega) hP2)
                  have HT := Lib.hid (cut_of swo HA.out HB.out (s := s) (e := e) (mid := y) (by omega) (by omega) (by omega) (by omega) (by omega) HV1.out HV2.out hd2)
                  clear hM2 hH2 hP2 hd2 HK1
                  have HS2 := Lib.hid (HN.out.trans HP2.out.1.symm)
                  have HH3 := Lib.hid HH2.out
                  have HM3 := Lib.hid HM2.out
                  have HP3 := Lib.hid (permIn_refl d2 a y)
                  have HS3 := Lib.hid (show SortedIn lt a y d2 from sorted_mono HT.out.s2 (by omega) (Nat.le_refl _))
                  have HF := Lib.hid (show Pst w g a b d (fun d' => SortedIn lt a b d') (.returned (.tuple #[])) w2 from ⟨rfl, HM3.out, d2, HH3.out, permIn_trans _ _ _ _ _ HP2.out (permIn_mono _ _ a y a b (Nat.le_refl _) (by omega) (by have := HS2.out; omega) HP3.out), HT.out.done (by have := HS2.out; omega) (by omega) (by omega) HP3.out HS3.out (permIn_refl _ _ _) (sorted_mono (sorted_other HP3.out HT.out.s3 (.inr (Nat.le_refl _))) (by omega) (by omega))⟩)
                  go_wp2
                  go_end0
                  exact HF.out
            · by_cases k1 : s < y
              · have k2 : (a < s) := by omega
                have k3 : (e < b) := by omega
                have f1 : ¬ (s : Int) < (m : Int) := by omega
                have f2 : (m : Int) < (e : Int) := by omega
                have f3 : (a : Int) < (s : Int) := by omega
                have f4 : (s : Int) < (y : Int) := by omega
                have f5 : ¬ (y : Int) < (e : Int) := by omega
                have f6 : (e : Int) < (b : Int) := by omega
                have HH2 := Lib.hid HH.out
                have HM2 := Lib.hid HM.out
                have HP2 := Lib.hid (permIn_refl d a b)
                have HT := Lib.hid (cut_of (d' := d) swo HA.out HB.out (s := s) (e := e) (mid := y) (by omega) (by omega) (by omega) (by omega) (by omega) HV1.out HV2.out (fun k => (rotF_id (by omega) (by omega) (by omega) k).symm))
                have HS2 := Lib.hid (HN.out.trans HP2.out.1.symm)
                have HK2 := Lib.hid (HI.out d a s y wr HH2.out HS2.out (by omega) (by omega) (by omega) (by omega) HT.out.s1 HT.out.s2)
                go_wp2_with fail
                refine HK2.out.mono ?_
                rintro _ w3 ⟨rfl, hM3, d3, hH3, hP3, hs3⟩
                have HH3 := Lib.hid hH3
                have HM3 := Lib.hid (HM2.out.then_ hM3)
                have HP3 := Lib.hid hP3
                have HS3 := Lib.hid hs3
                clear hM3 hH3 hP3 hs3 HK2
                have HF := Lib.hid (show Pst w g a b d (fun d' => SortedIn lt a b d') (.returned (.tuple #[])) w3 from ⟨rfl, HM3.out, d3, HH3.out, permIn_trans _ _ _ _ _ HP2.out (permIn_mono _ _ a y a b (Nat.le_refl _) (by omega) (by have := HS2.out; omega) HP3.out), HT.out.done (by have := HS2.out; omega) (by omega) (by omega) HP3.out HS3.out (permIn_refl _ _ _) (sorted_mono (sorted_other HP3.out HT.out.s4 (.inr (by omega))) (by omega) (by omega))⟩)
                go_wp2
                go_end0
                exact HF.out
              · have k2 : (a < s) := by omega
                have k3 : (e < b) := by omega
                have f1 : ¬ (s : Int) < (m : Int) := by omega
                have f2 : ¬ (m : Int) < (e : Int) := by omega
                have f3 : (a : Int) < (s : Int) := by omega
                have f4 : ¬ (s : Int) < (y : Int) := by omega
                have f5 : ¬ (y : Int) < (e : Int) := by omega
                have f6 : (e : Int) < (b : Int) := by omega
                have HH2 := Lib.hid HH.out
                have HM2 := Lib.hid HM.out
                have HP2 := Lib.hid (permIn_refl d a b)
                have HT := Lib.hid (cut_of (d' := d) swo HA.out HB.out (s := s) (e := e) (mid := y) (by omega) (by omega) (by omega) (by omega) (by omega) HV1.out HV2.out (fun k => (rotF_id (by omega) (by omega) (by omega) k).symm))
                have HS2 := Lib.hid (HN.out.trans HP2.out.1.symm)
                have HH3 := Lib.hid HH2.out
                have HM3 := Lib.hid HM2.out
                have HP3 := Lib.hid (permIn_refl d a y)
                have HS3 := Lib.hid (show SortedIn lt a y d from sorted_mono HT.out.s1 (Nat.le_refl _) (by omega))
                have HF := Lib.hid (show Pst w g a b d (fun d' => SortedIn lt a b d') (.returned (.tuple #[])) wr from ⟨rfl, HM3.out, d, HH3.out, permIn_trans _ _ _ _ _ HP2.out (permIn_mono _ _ a y a b (Nat.le_refl _) (by omega) (by have := HS2.out; omega) HP3.out), HT.out.done (by have := HS2.out; omega) (by omega) (by omega) HP3.out HS3.out (permIn_refl _ _ _) (sorted_mono (sorted_other HP3.out HT.out.s4 (.inr (by omega))) (by omega) (by omega))⟩)
                go_wp2
                go_end0
                exact HF.out
end Go.Proofs.Ytcblhfjgdkbinaa.Re
