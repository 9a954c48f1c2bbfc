/- Choose of the document. Conditions: the memory, at most 1000 records. -/
import Derived.Test.YtcblhfjgdkbinaaJs
namespace Go.Proofs.Ytcblhfjgdkbinaa.Re
open Go.RowKit Go.Proofs.Ytcblhfjgdkbinaa.Mem Go.Proofs.Ytcblhfjgdkbinaa.Sl Go.Shelf Go.Sort Go.Proofs.Ytcblhfjgdkbinaa.Sr
open Go.Proofs.Ytcblhfjgdkbinaa.FnL (enc_at below_then)
open Go.Proofs.Ytcblhfjgdkbinaa.Lt (Later wp_region_later)
set_option linter.unusedVariables false

theorem rchoose_bad {w : World} (A : Option Addr) (n c : Nat) (gl part : Int) (h : ¬ okPart part) : Calls Try.prog 22 #[.slice A n c, .int .i64 gl, .int .i64 part] w (ChoR w [] 2) := by
  have HF := Lib.hid (show ChoR w [] 2 (.returned (.tuple #[.slice none 0 0, .int .i64 2])) w from ⟨none, 0, rfl, App.Own.nil _ _ _, Below.refl _ _⟩)
  rcases (show part < 0 ∨ (¬ part < 0 ∧ 100 < part) by unfold okPart at h; omega) with h1 | ⟨h1, h2⟩
  · clear h
    go_enter Try.func22, Try.ntmps22
    go_wp2
    go_ret2
    exact HF.out
  · clear h
    go_enter Try.func22, Try.ntmps22
    go_wp2
    go_ret2
    exact HF.out
theorem rd_some {w : World} {A : Option Addr} {l : List Rc} (h : RdV w A (RCs l)) (hl : 0 < l.length) : ∃ b o, A = some ⟨b, o, none⟩ := by
  obtain ⟨b, o, e, _⟩ := h (by rw [RCs_len]; omega)
  exact ⟨b, o, e⟩
theorem rd5 {w : World} {b o : Nat} {l : List Rc} (h : RdV w (some ⟨b, o, none⟩) (RCs l)) {i : Nat} (hi : i < l.length) : w.cell? ⟨b, o + i * 5, none⟩ = some (.int .i64 l[i]!.id) ∧ w.cell? ⟨b, o + i * 5 + 1, none⟩ = some (.int .i64 l[i]!.lbd) ∧ w.cell? ⟨b, o + i * 5 + 2, none⟩ = some (.int .i64 l[i]!.size) ∧ w.cell? ⟨b, o + i * 5 + 3, none⟩ = some (.int .i64 l[i]!.used) ∧ w.cell? ⟨b, o + i * 5 + 4, none⟩ = some (.bool l[i]!.locked) := by
  have HC : ∀ j v (hj : j < 5) (hv : (encR l[i]!)[j]? = some v), w.cell? ⟨b, o + (i * 5 + j), none⟩ = some v := fun j v hj hv => by
    obtain ⟨b', o', e, _, hc⟩ := RdV.at_ h ((RCs_at l i j hi hj).trans hv)
    injection e with e
    injection e with e1 e2
    rw [e1, e2]; exact hc
  exact ⟨HC 0 _ (by decide) rfl, HC 1 _ (by decide) rfl, HC 2 _ (by decide) rfl, HC 3 _ (by decide) rfl, HC 4 _ (by decide) rfl⟩
theorem rd_drop {w : World} {b o : Nat} {l : List Rc} (h : RdV w (some ⟨b, o, none⟩) (RCs l)) {k : Nat} (hk : k ≤ l.length) : RdV w (some ⟨b, o + k * 5, none⟩) (RCs (l.drop k)) := fun hp => by
  rw [RCs_len, List.length_drop] at hp
  obtain ⟨b', o', e, h1, h2⟩ := h (by rw [RCs_len]; omega)
  injection e with e
  injection e with e1 e2
  subst e1 e2
  refine ⟨b, o + k * 5, rfl, h1, fun t v hv => ?_⟩
  have := h2 (k * 5 + t) v (by
    have e3 : RCs l = RCs (l.take k) ++ RCs (l.drop k) := by rw [← RCs_append, List.take_append_drop]
    rw [e3, List.getElem?_append_right (by rw [RCs_len, List.length_take]; omega), RCs_len, List.length_take, Nat.min_eq_left hk, Nat.add_sub_cancel_left]
    exact hv)
  rw [Nat.add_assoc]; exact this
theorem rd_take {w : World} {A : Option Addr} {l : List Rc} (h : RdV w A (RCs l)) {k : Nat} (hk : k ≤ l.length) : RdV w A (RCs (l.take k)) := by
  have e3 : RCs (l.take k) = (RCs l).take (k * 5) := by
    have e4 : RCs l = RCs (l.take k) ++ RCs (l.drop k) := by rw [← RCs_append, List.take_append_drop]
    have h2 : (RCs (l.take k)).length = k * 5 := by rw [RCs_len, List.length_take, Nat.min_eq_left hk]
    have := congrArg (List.take (k * 5)) e4
    rw [List.take_append_of_le_length (by omega), List.take_of_length_le (l := RCs (l.take k)) (by omega)] at this
    exact this.symm
  rw [e3]; exact h.take _
theorem wpAppSr {P : Program} {w : World} {ops : Array Oper} {rest : List Oper} {o : Oper} {a : Act} {Q : Exit → Act → World → Prop} (T E : TypeId) (z : Value) (k bytes : Nat) (hT : P.underlying T = some (.slice E))
    (hinfo : ∃ i, P.info? E = some i ∧ i.zero = some z ∧ i.size = k ∧ i.bytes = bytes) (hzs : z.cells.size = k) (hk : 0 < k) (hgd : o.guard = none) (s x : Operand)
    (ho : o.op = .call { callee := .builtin .append, args := #[s, x], argTypes := #[T, T] })
    (base : Nat) (A : Option Addr) (n c : Nat) (cells : List Value) (hs : a.eval s = .slice A n c) (hown : SRow w base E k A n c cells)
    (A2 : Option Addr) (m c2 : Nat) (news : List Value) (hx : a.eval x = .slice A2 m c2) (hl : news.length = m * k) (hr : RdV w A2 news) (hnil : A2 = none → c2 = 0) (h1 : ∀ u ∈ news, u.oneCell' = true)
    (h63 : n + m ≤ maxLen) (hbytes : (n + m) * bytes ≤ 140737488355328) (hbase : base ≤ w.heap.size) (r : Nat) (hrr : n + m = r)
    (h : ∀ A' c' w', SRow w' base E k A' r c' (cells ++ news) → Mod (fun i => A = some ⟨i, 0, none⟩) w w' → (∀ i, A' = some ⟨i, 0, none⟩ → A = some ⟨i, 0, none⟩ ∨ i = w.heap.size) → wpList P ops Q rest (a.put o.dst (.slice A' r c')) w') : wpList P ops Q (o :: rest) a w := by
  subst hrr
  exact wpAppS T E z k bytes hT hinfo hzs hk hgd s x ho base A n c cells hs hown A2 m c2 news hx hl hr hnil h1 h63 hbytes hbase h
/-- The row of those that go, of the first i. -/
def rowF (l : List Rc) (g : Int) (i : Nat) : List Rc := srt ((l.take i).filter (goF g))
theorem rowF_skip {l : List Rc} {g : Int} {i : Nat} (hi : i < l.length) (h : goF g l[i]! = false) : rowF l g (i + 1) = rowF l g i := by
  unfold rowF
  rw [getElem!_pos l i hi] at h
  rw [List.take_succ_eq_append_getElem hi, List.filter_append]
  simp [h]
theorem rowF_go {l : List Rc} {g : Int} {i : Nat} (hi : i < l.length) (h : goF g l[i]! = true) : rowF l g (i + 1) = insR l[i]! (rowF l g i) := by
  unfold rowF
  rw [getElem!_pos l i hi] at h ⊢
  rw [List.take_succ_eq_append_getElem hi, List.filter_append, ← srt_snoc]
  simp [h]
theorem rowF_len (l : List Rc) (g : Int) (i : Nat) : (rowF l g i).length ≤ i := by
  unfold rowF
  rw [srt_len]
  exact Nat.le_trans (List.length_filter_le _ _) (by rw [List.length_take]; omega)
theorem later_before {P : World → Prop} {wr : World} (x y : Rc) (p : Later wr) : Calls Try.prog 28 #[agR x, agR y] p.w' fun e w'' => e = .returned (.bool (lt x y)) ∧ ∃ q : Later wr, w'' = q.w' :=
  Later.meet (fun W hb => before_any x y W) p
set_option maxRecDepth 100000 in
set_option maxHeartbeats 8000000 in
theorem rchoose_ok {w : World} (A : Option Addr) (c : Nat) (l : List Rc) (gl part : Int) (hr : RdV w A (RCs l)) (hl : l.length ≤ 1000) (hp : okPart part) :
    Calls Try.prog 22 #[.slice A l.length c, .int .i64 gl, .int .i64 part] w (ChoR w (idsR (chosen l gl part)) 0) := by
  have HR := Lib.hid hr
  obtain ⟨N, hN⟩ : ∃ N, N = l.length := ⟨_, rfl⟩
  have HN := Lib.hid hN
  have HCH := Lib.hid (show chosen l gl part = (rowF l gl N).take (((rowF l gl N).length : Int) * part / 100).toNat by
    unfold chosen rowF; rw [hN, List.take_length, srt_len])
  rw [← hN] at hl ⊢
  generalize chosen l gl part = ch at *
  have p1 : ¬ part < 0 := by unfold okPart at hp; omega
  have p2 : ¬ 100 < part := by unfold okPart at hp; omega
  clear hr hN hp
  have mixed : Try.prog.follows .mixedOrders = true := pk.mixed
  go_enter Try.func22, Try.ntmps22
  go_wp2
  go_loopw [8, 9, 10, 11, 12] (fun vr vi _ _ _ wr => ∃ (i n : Nat) (R : Option Addr) (cr : Nat), vr = .slice R n cr ∧ vi = .int .i64 i ∧ i ≤ N ∧ Below w.heap.size w wr ∧ SRow wr w.heap.size 43 5 R n cr (RCs (rowF l gl i)) ∧ n = (rowF l gl i).length ∧ (n = 0 → R = none)) (fun _ vi _ _ _ _ => N - (intOf vi).toNat)
  case atStart => exact ⟨0, 0, none, 0, rfl, rfl, Nat.zero_le _, Below.refl _ _, SRow.nil _ _ _ _, rfl, fun _ => rfl⟩
  case round =>
    obtain ⟨i, n, R, cr, rfl, rfl, hi, hB, hS, hn, hRN⟩ := hrel
    have HRN := Lib.hid hRN
    have HBR := Lib.hid hB
    have HSR := Lib.hid hS
    have HNR := Lib.hid hn
    have hn1 : n ≤ 1000 := by have := rowF_len l gl i; omega
    clear hB hS hn hRN
    by_cases hlt : i < N
    · have hz : (i : Int) < (N : Int) := by omega
      have hil : i < l.length := by rw [← HN.out]; exact hlt
      obtain ⟨b0, o0, rfl⟩ := rd_some HR.out (by omega)
      have HC5 := Lib.hid (fun W (hb : Below w.heap.size w W) => rd5 (HR.out.below hb) hil)
      have HSK := Lib.hid (fun h => rowF_skip (g := gl) hil h)
      have HGO := Lib.hid (fun h => rowF_go (g := gl) hil h)
      have HGI := Lib.hid (goF_is gl l[i]!)
      have HTC := Lib.hid (tierF_cases l[i]!.lbd gl)
      have HTI := Lib.hid (fun W => rtier_any l[i]! gl W)
      obtain ⟨x, hx⟩ : ∃ x, x = l[i]! := ⟨_, rfl⟩
      rw [← hx] at HC5 HSK HGO HGI HTI HTC
      obtain ⟨T, hT⟩ : ∃ T, T = tierF x.lbd gl := ⟨_, rfl⟩
      rw [← hT] at HGI HTI HTC
      obtain ⟨row, hrow⟩ : ∃ row, row = rowF l gl i := ⟨_, rfl⟩
      rw [← hrow] at HSK HGO HSR HNR
      obtain ⟨q0, q1, q2, q3, q4⟩ := HC5.out wr HBR.out
      clear hx hT hrow hil
      go_wp2_with fail
      refine (HTI.out _).mono ?_
      rintro e w1 ⟨rfl, hb1⟩
      have HB1 := Lib.hid (below_then HBR.out hb1 HBR.out.size)
      have HS1 := Lib.hid (HSR.out.below hb1)
      clear hb1 q0 q1 q2 q3 q4 HTI
      obtain ⟨q0, q1, q2, q3, q4⟩ := HC5.out w1 HB1.out
      generalize hgo : goF gl x = go at HGI HSK HGO
      have HGE := Lib.hid hgo
      clear hgo
      go_upto_region 8 with (fail)
      go_cut [65] from 33 to 65 (fun z wx => z = .bool (!go) ∧ wx = w1)
      case first =>
        obtain ⟨xi, xb, xs, xu, xl⟩ := x
        simp only at q0 q1 q2 q3 q4 HGI
        cases xl with
        | true =>
          obtain rfl : go = false := by rw [HGI.out, if_pos (.inl rfl)]
          go_wp2
          go_meet
          case rel => exact ⟨rfl, rfl⟩
        | false =>
          rcases HTC.out with ⟨rfl, _⟩ | ⟨rfl, _⟩ | ⟨rfl, _⟩
          · obtain rfl : go = false := by rw [HGI.out, if_pos (.inr (.inl rfl))]
            go_wp2
            go_meet
            case rel => exact ⟨rfl, rfl⟩
          · by_cases hu : xu = 0
            · obtain rfl : go = true := by rw [HGI.out, if_neg (by simp [hu])]
              subst hu
              go_wp2
              go_meet
              case rel => exact ⟨rfl, rfl⟩
            · obtain rfl : go = false := by rw [HGI.out, if_pos (.inr (.inr (.inl ⟨rfl, hu⟩)))]
              have hu2 : (xu == 0) = false := by simpa using hu
              go_wp2
              go_meet
              case rel => exact ⟨rfl, rfl⟩
          · by_cases hu : 2 ≤ xu
            · obtain rfl : go = false := by rw [HGI.out, if_pos (.inr (.inr (.inr ⟨rfl, hu⟩)))]
              go_wp2
              go_meet
              case rel => exact ⟨rfl, rfl⟩
            · obtain rfl : go = true := by rw [HGI.out, if_neg (by simp [hu])]
              go_wp2
              go_meet
              case rel => exact ⟨rfl, rfl⟩
      case rest =>
        obtain ⟨rfl, rfl⟩ := hcut
        cases go with
        | false =>
          have HSKE := Lib.hid (HSK.out rfl)
          go_wp2
          go_roundw
          case rel => exact ⟨i + 1, n, R, cr, rfl, by go_num, hlt, HB1.out, by rw [HSKE.out]; exact HS1.out, by rw [HSKE.out]; exact HNR.out, HRN.out⟩
          case measure => simp [intOf]; omega
        | true =>
          have HGR := Lib.hid (HGO.out rfl)
          rename World => w1
          clear q0 q1 q2 q3 q4
          go_upto_block 2 with (fail)
          go_cut [11] from 66 to 83 (fun va wx => ∃ k : Nat, va = .int .i64 k ∧ k ≤ n ∧ Below w1.heap.size w1 wx ∧ Hid (insR x row = row.take k ++ ([x] ++ row.drop k)))
          case first =>
            go_wp2_with fail
            go_loopg [11] (n + 1) (fun M va wr => ∃ k : Nat, M + k = n + 1 ∧ k ≤ n ∧ va = .int .i64 k ∧ Below w1.heap.size w1 wr ∧ Hid (∀ j, j < k → lt x row[j]! = false))
            case atStart => exact ⟨0, rfl, Nat.zero_le _, rfl, Below.refl _ _, fun j h => absurd h (Nat.not_lt_zero _)⟩
            case round =>
              obtain ⟨k, hM, hk, rfl, hB, HJ⟩ := hrel
              have HBK := Lib.hid hB
              clear hB
              by_cases hkn : k < n
              · have kz : (k : Int) < (n : Int) := by omega
                obtain ⟨b2, o2, rfl⟩ := rd_some HS1.out.rd (by rw [← HNR.out]; omega)
                have H1 := fun (p : Later wr) => HC5.out p.w' (below_then HB1.out (below_then HBK.out p.h HBK.out.size) HB1.out.size)
                have H2 := fun (p : Later wr) => rd5 (HS1.out.rd.below (below_then HBK.out p.h HBK.out.size)) (i := k) (by rw [← HNR.out]; exact hkn)
                have HLE := Lib.hid (show k = row.length ∨ lt x row[k]! = true → insR x row = row.take k ++ ([x] ++ row.drop k) from fun h => insR_at (by rw [← HNR.out]; exact hk) HJ.out h)
                obtain ⟨y, hy⟩ : ∃ y, y = row[k]! := ⟨_, rfl⟩
                rw [← hy] at H2 HLE
                have HY := Lib.hid hy
                have L0 := fun p => (H1 p).1
                have L1 := fun p => (H1 p).2.1
                have L2 := fun p => (H1 p).2.2.1
                have L3 := fun p => (H1 p).2.2.2.1
                have L4 := fun p => (H1 p).2.2.2.2
                have R0 := fun p => (H2 p).1
                have R1 := fun p => (H2 p).2.1
                have R2 := fun p => (H2 p).2.2.1
                have R3 := fun p => (H2 p).2.2.2.1
                have R4 := fun p => (H2 p).2.2.2.2
                have M := Lib.hid (fun (p : Later wr) => later_before (P := fun _ => True) x y p)
                clear H1 H2 hy
                generalize hb : lt x y = b at M HLE
                have HBE := Lib.hid hb
                clear hb
                cases b with
                | true =>
                  have HIN := Lib.hid (HLE.out (.inr rfl))
                  go_wp2_with fail
                  refine wp_region_later mixed (by kernel_rfl) ?_
                  repeat (go_big_quiet_step ((go_at_call 28; exact M.out _)))
                  refine wpQuiet_nil ?_
                  intro wq hw'
                  obtain ⟨p, hp⟩ := hw'
                  have HBQ := Lib.hid (show Below w1.heap.size w1 wq from below_then HBK.out (hp ▸ p.h) HBK.out.size)
                  clear L0 L1 L2 L3 L4 R0 R1 R2 R3 R4 M hp p
                  go_wp2
                  go_meet
                  case rel => exact ⟨k, rfl, hk, HBQ.out, HIN.out⟩
                | false =>
                  have HJ2 := Lib.hid (show ∀ j, j < k + 1 → lt x row[j]! = false from fun j hj => by
                    by_cases e : j = k
                    · rw [e, ← HY.out]; exact HBE.out
                    · exact HJ.out j (by omega))
                  go_wp2_with fail
                  refine wp_region_later mixed (by kernel_rfl) ?_
                  repeat (go_big_quiet_step ((go_at_call 28; exact M.out _)))
                  refine wpQuiet_nil ?_
                  intro wq hw'
                  obtain ⟨p, hp⟩ := hw'
                  have HBQ := Lib.hid (show Below w1.heap.size w1 wq from below_then HBK.out (hp ▸ p.h) HBK.out.size)
                  clear L0 L1 L2 L3 L4 R0 R1 R2 R3 R4 M hp p
                  go_wp2
                  go_roundg (gk - 1)
                  case rel => exact ⟨k + 1, by omega, hkn, by go_num, HBQ.out, HJ2.out⟩
                  case measure => omega
              · have HIN := Lib.hid (show insR x row = row.take k ++ ([x] ++ row.drop k) from insR_at (by rw [← HNR.out]; exact hk) HJ.out (.inl (by rw [← HNR.out]; omega)))
                have kz : ¬ (k : Int) < (n : Int) := by omega
                go_wp2_with fail
                go_big_quiet (fail)
                go_wp2
                go_meet
                case rel => exact ⟨k, rfl, hk, belowN HBK.out _, HIN.out⟩
          case rest =>
            obtain ⟨k, rfl, hk, hB, HI⟩ := hcut
            have HBC := Lib.hid (below_then HB1.out hB HB1.out.size)
            have HSC := Lib.hid (HS1.out.below hB)
            obtain ⟨q0, q1, q2, q3, q4⟩ := HC5.out wc HBC.out
            have HTL := Lib.hid (show (row.take k).length = k by rw [List.length_take, ← HNR.out]; omega)
            have HRT := Lib.hid (rd_take HSC.out.rd (k := k) (by rw [← HNR.out]; exact hk))
            have HRR := Lib.hid HSC.out.rd
            clear hB HS1
            rcases hR : R with _ | ⟨g, off, spot⟩
            · subst hR
              obtain rfl : n = 0 := by
                obtain ⟨_, ⟨_, _, h, _⟩ | ⟨g, e, _⟩⟩ := HSC.out
                · exact h
                · cases e
              obtain rfl : k = 0 := by omega
              obtain rfl : cr = 0 := by
                obtain ⟨_, ⟨_, h, _⟩ | ⟨g, e, _⟩⟩ := HSC.out
                · exact h
                · cases e
              have HRD := Lib.hid (show RdV wc none (RCs (row.drop 0)) from HRR.out)
              clear HRR HSC
              go_wp2_with (first
            | (at_builtin; refine wpAppSr 24 43 (.agg #[.int .i64 0, .int .i64 0, .int .i64 0, .int .i64 0, .bool false]) 5 40 Try.underlying24 infoF rfl (by decide) rfl _ _ rfl wc.heap.size none 0 0 [] rfl (SRow.nil _ _ _ _) none 0 0 (RCs (row.take 0)) rfl (by rw [RCs_len, HTL.out]) HRT.out (fun h => rfl) (RCs_one _) (by unfold maxLen; omega) (by omega) (Nat.le_refl _) 0 (Nat.zero_add _) ?_; intro A1 c1 w2 hO1 hM1 _
               have HO1 := Lib.hid (show SRow w2 wc.heap.size 43 5 A1 0 c1 (RCs (row.take 0)) from by rw [List.nil_append] at hO1; exact hO1)
               have HB2 := Lib.hid (show Below wc.heap.size wc w2 from (hM1.mono (fun i _ e => by cases e)).fresh)
               have HB20 := Lib.hid (below_then HBC.out HB2.out HBC.out.size)
               obtain ⟨q0, q1, q2, q3, q4⟩ := HC5.out w2 HB20.out
               have HBX := Lib.hid (show Below w2.heap.size w2 (w2.alloc (.cells #[.int .i64 x.id, .int .i64 x.lbd, .int .i64 x.size, .int .i64 x.used, .bool x.locked] 43)) from (Below.refl _ _).alloc (Nat.le_refl _) _)
               have HRX := Lib.hid (show RdV (w2.alloc (.cells #[.int .i64 x.id, .int .i64 x.lbd, .int .i64 x.size, .int .i64 x.used, .bool x.locked] 43)) (some ⟨w2.heap.size, 0, none⟩) (encR x) from RdV.blk (rest := []) (Blk.new _ _ _))
               have HBW2 := Lib.hid (below_then HB2.out HBX.out HB2.out.size)
               clear hO1 hM1)
            | (at_builtin; refine wpAppSr 24 43 (.agg #[.int .i64 0, .int .i64 0, .int .i64 0, .int .i64 0, .bool false]) 5 40 Try.underlying24 infoF rfl (by decide) rfl _ _ rfl wc.heap.size A1 0 c1 (RCs (row.take 0)) rfl (HO1.out.below HBX.out) (some ⟨w2.heap.size, 0, none⟩) 1 1 (encR x) rfl rfl HRX.out (fun h => by cases h) (encR_one x) (by unfold maxLen; omega) (by omega) HBW2.out.size (0 + 1) rfl ?_; intro A2 c2 w3 hO2 hM2 _
               have HO2 := Lib.hid hO2
               have HB23 := Lib.hid (show Below wc.heap.size wc w3 from Mem.Below.then_mod HBW2.out hM2 (fun i hi e => by have := (HO1.out.lt e).1; omega) (Nat.le_refl _))
               clear hO2 hM2 q0 q1 q2 q3 q4)
            | (at_builtin; refine wpAppSr 24 43 (.agg #[.int .i64 0, .int .i64 0, .int .i64 0, .int .i64 0, .bool false]) 5 40 Try.underlying24 infoF rfl (by decide) rfl _ _ rfl wc.heap.size A2 (0 + 1) c2 (RCs (row.take 0) ++ encR x) rfl HO2.out none 0 0 (RCs (row.drop 0)) rfl (by first | rw [RCs_len, List.length_drop, ← HNR.out, Nat.sub_self] | rw [RCs_len, List.length_drop, ← HNR.out]) (HRD.out.below HB23.out) (fun h => rfl) (RCs_one (row.drop 0)) (by unfold maxLen; omega) (by omega) HB23.out.size (0 + 1) (by omega) ?_; intro A3 c3 w4 hO3 hM3 _
               have HO3 := Lib.hid (show SRow w4 w.heap.size 43 5 A3 (0 + 1) c3 (RCs (rowF l gl (i + 1))) from by
                 rw [HGR.out, HI.out, RCs_append, RCs_append, ← List.append_assoc]
                 rw [show RCs [x] = encR x by simp [RCs]]
                 exact hO3.low HBC.out.size)
               have HB4 := Lib.hid (show Below w.heap.size w w4 from below_then HBC.out (Mem.Below.then_mod HB23.out hM3 (fun i hi e => by have := (HO2.out.lt e).1; omega) (Nat.le_refl _)) HBC.out.size)
               clear hO3 hM3))
              go_roundw
              case rel => exact ⟨i + 1, 0 + 1, A3, c3, rfl, by go_num, hlt, HB4.out, HO3.out, by rw [HGR.out, (insR_perm x row).length_eq, List.length_cons, ← HNR.out], fun h => absurd h (Nat.succ_ne_zero _)⟩
              case measure => simp [intOf]; omega
            · obtain ⟨rfl, rfl, hcr⟩ : off = 0 ∧ spot = none ∧ n ≤ cr := by
                obtain ⟨_, ⟨h, _⟩ | ⟨g', e, _, h, _⟩⟩ := HSC.out
                · rw [hR] at h; cases h
                · rw [hR] at e
                  injection e with e
                  injection e with e1 e2 e3
                  exact ⟨e2, e3, h⟩
              subst hR
              by_cases hkc : k < cr
              · have HRD := Lib.hid (show RdV wc (some ⟨g, k * 5, none⟩) (RCs (row.drop k)) from by
                  have := rd_drop HRR.out (k := k) (by rw [← HNR.out]; exact hk)
                  rwa [Nat.zero_add] at this)
                have kz1 : (k : Int) ≤ (cr : Int) := by omega
                have kz2 : (k : Int) ≤ (n : Int) := by omega
                have kz3 : (n : Int) ≤ (cr : Int) := by omega
                have kz4 : k ≤ cr := by omega
                have kz5 : ¬ cr = k := by omega
                have kz6 : 0 < cr - k := by omega
                clear HRR HSC
                go_wp2_with (first
            | (at_builtin; refine wpAppSr 24 43 (.agg #[.int .i64 0, .int .i64 0, .int .i64 0, .int .i64 0, .bool false]) 5 40 Try.underlying24 infoF rfl (by decide) rfl _ _ rfl wc.heap.size none 0 0 [] rfl (SRow.nil _ _ _ _) (some ⟨g, 0, none⟩) k cr (RCs (row.take k)) rfl (by rw [RCs_len, HTL.out]) HRT.out (fun h => by cases h) (RCs_one _) (by unfold maxLen; omega) (by omega) (Nat.le_refl _) k (Nat.zero_add _) ?_; intro A1 c1 w2 hO1 hM1 _
               have HO1 := Lib.hid (show SRow w2 wc.heap.size 43 5 A1 k c1 (RCs (row.take k)) from by rw [List.nil_append] at hO1; exact hO1)
               have HB2 := Lib.hid (show Below wc.heap.size wc w2 from (hM1.mono (fun i _ e => by cases e)).fresh)
               have HB20 := Lib.hid (below_then HBC.out HB2.out HBC.out.size)
               obtain ⟨q0, q1, q2, q3, q4⟩ := HC5.out w2 HB20.out
               have HBX := Lib.hid (show Below w2.heap.size w2 (w2.alloc (.cells #[.int .i64 x.id, .int .i64 x.lbd, .int .i64 x.size, .int .i64 x.used, .bool x.locked] 43)) from (Below.refl _ _).alloc (Nat.le_refl _) _)
               have HRX := Lib.hid (show RdV (w2.alloc (.cells #[.int .i64 x.id, .int .i64 x.lbd, .int .i64 x.size, .int .i64 x.used, .bool x.locked] 43)) (some ⟨w2.heap.size, 0, none⟩) (encR x) from RdV.blk (rest := []) (Blk.new _ _ _))
               have HBW2 := Lib.hid (below_then HB2.out HBX.out HB2.out.size)
               clear hO1 hM1)
            | (at_builtin; refine wpAppSr 24 43 (.agg #[.int .i64 0, .int .i64 0, .int .i64 0, .int .i64 0, .bool false]) 5 40 Try.underlying24 infoF rfl (by decide) rfl _ _ rfl wc.heap.size A1 k c1 (RCs (row.take k)) rfl (HO1.out.below HBX.out) (some ⟨w2.heap.size, 0, none⟩) 1 1 (encR x) rfl rfl HRX.out (fun h => by cases h) (encR_one x) (by unfold maxLen; omega) (by omega) HBW2.out.size (k + 1) rfl ?_; intro A2 c2 w3 hO2 hM2 _
               have HO2 := Lib.hid hO2
               have HB23 := Lib.hid (show Below wc.heap.size wc w3 from Mem.Below.then_mod HBW2.out hM2 (fun i hi e => by have := (HO1.out.lt e).1; omega) (Nat.le_refl _))
               clear hO2 hM2 q0 q1 q2 q3 q4)
            | (at_builtin; refine wpAppSr 24 43 (.agg #[.int .i64 0, .int .i64 0, .int .i64 0, .int .i64 0, .bool false]) 5 40 Try.underlying24 infoF rfl (by decide) rfl _ _ rfl wc.heap.size A2 (k + 1) c2 (RCs (row.take k) ++ encR x) rfl HO2.out (some ⟨g, k * 5, none⟩) (n - k) (cr - k) (RCs (row.drop k)) rfl (by first | rw [RCs_len, List.length_drop, ← HNR.out, Nat.sub_self] | rw [RCs_len, List.length_drop, ← HNR.out]) (HRD.out.below HB23.out) (fun h => by cases h) (RCs_one (row.drop k)) (by unfold maxLen; omega) (by omega) HB23.out.size (n + 1) (by omega) ?_; intro A3 c3 w4 hO3 hM3 _
               have HO3 := Lib.hid (show SRow w4 w.heap.size 43 5 A3 (n + 1) c3 (RCs (rowF l gl (i + 1))) from by
                 rw [HGR.out, HI.out, RCs_append, RCs_append, ← List.append_assoc]
                 rw [show RCs [x] = encR x by simp [RCs]]
                 exact hO3.low HBC.out.size)
               have HB4 := Lib.hid (show Below w.heap.size w w4 from below_then HBC.out (Mem.Below.then_mod HB23.out hM3 (fun i hi e => by have := (HO2.out.lt e).1; omega) (Nat.le_refl _)) HBC.out.size)
               clear hO3 hM3))
                go_roundw
                case rel => exact ⟨i + 1, n + 1, A3, c3, rfl, by go_num, hlt, HB4.out, HO3.out, by rw [HGR.out, (insR_perm x row).length_eq, List.length_cons, ← HNR.out], fun h => absurd h (Nat.succ_ne_zero _)⟩
                case measure => simp [intOf]; omega
              · obtain rfl : n = k := by omega
                obtain rfl : cr = n := by omega
                have kz1 : 0 < cr := by rcases Nat.eq_zero_or_pos cr with h | h; (exact absurd (HRN.out h) (by simp)); (exact h)
                have kz2 : ¬ cr = 0 := by omega
                have HRD := Lib.hid (show RdV wc (some ⟨g, 0, none⟩) (RCs (row.drop cr)) from by
                  rw [List.drop_eq_nil_of_le (by rw [← HNR.out]; exact Nat.le_refl _)]
                  exact RdV.nil _ _)
                clear HRR HSC
                go_wp2_with (first
            | (at_builtin; refine wpAppSr 24 43 (.agg #[.int .i64 0, .int .i64 0, .int .i64 0, .int .i64 0, .bool false]) 5 40 Try.underlying24 infoF rfl (by decide) rfl _ _ rfl wc.heap.size none 0 0 [] rfl (SRow.nil _ _ _ _) (some ⟨g, 0, none⟩) cr cr (RCs (row.take cr)) rfl (by rw [RCs_len, HTL.out]) HRT.out (fun h => by cases h) (RCs_one _) (by unfold maxLen; omega) (by omega) (Nat.le_refl _) cr (Nat.zero_add _) ?_; intro A1 c1 w2 hO1 hM1 _
               have HO1 := Lib.hid (show SRow w2 wc.heap.size 43 5 A1 cr c1 (RCs (row.take cr)) from by rw [List.nil_append] at hO1; exact hO1)
               have HB2 := Lib.hid (show Below wc.heap.size wc w2 from (hM1.mono (fun i _ e => by cases e)).fresh)
               have HB20 := Lib.hid (below_then HBC.out HB2.out HBC.out.size)
               obtain ⟨q0, q1, q2, q3, q4⟩ := HC5.out w2 HB20.out
               have HBX := Lib.hid (show Below w2.heap.size w2 (w2.alloc (.cells #[.int .i64 x.id, .int .i64 x.lbd, .int .i64 x.size, .int .i64 x.used, .bool x.locked] 43)) from (Below.refl _ _).alloc (Nat.le_refl _) _)
               have HRX := Lib.hid (show RdV (w2.alloc (.cells #[.int .i64 x.id, .int .i64 x.lbd, .int .i64 x.size, .int .i64 x.used, .bool x.locked] 43)) (some ⟨w2.heap.size, 0, none⟩) (encR x) from RdV.blk (rest := []) (Blk.new _ _ _))
               have HBW2 := Lib.hid (below_then HB2.out HBX.out HB2.out.size)
               clear hO1 hM1)
            | (at_builtin; refine wpAppSr 24 43 (.agg #[.int .i64 0, .int .i64 0, .int .i64 0, .int .i64 0, .bool false]) 5 40 Try.underlying24 infoF rfl (by decide) rfl _ _ rfl wc.heap.size A1 cr c1 (RCs (row.take cr)) rfl (HO1.out.below HBX.out) (some ⟨w2.heap.size, 0, none⟩) 1 1 (encR x) rfl rfl HRX.out (fun h => by cases h) (encR_one x) (by unfold maxLen; omega) (by omega) HBW2.out.size (cr + 1) rfl ?_; intro A2 c2 w3 hO2 hM2 _
               have HO2 := Lib.hid hO2
               have HB23 := Lib.hid (show Below wc.heap.size wc w3 from Mem.Below.then_mod HBW2.out hM2 (fun i hi e => by have := (HO1.out.lt e).1; omega) (Nat.le_refl _))
               clear hO2 hM2 q0 q1 q2 q3 q4)
            | (at_builtin; refine wpAppSr 24 43 (.agg #[.int .i64 0, .int .i64 0, .int .i64 0, .int .i64 0, .bool false]) 5 40 Try.underlying24 infoF rfl (by decide) rfl _ _ rfl wc.heap.size A2 (cr + 1) c2 (RCs (row.take cr) ++ encR x) rfl HO2.out (some ⟨g, 0, none⟩) 0 0 (RCs (row.drop cr)) rfl (by first | rw [RCs_len, List.length_drop, ← HNR.out, Nat.sub_self] | rw [RCs_len, List.length_drop, ← HNR.out]) (HRD.out.below HB23.out) (fun h => by cases h) (RCs_one (row.drop cr)) (by unfold maxLen; omega) (by omega) HB23.out.size (cr + 1) (by omega) ?_; intro A3 c3 w4 hO3 hM3 _
               have HO3 := Lib.hid (show SRow w4 w.heap.size 43 5 A3 (cr + 1) c3 (RCs (rowF l gl (i + 1))) from by
                 rw [HGR.out, HI.out, RCs_append, RCs_append, ← List.append_assoc]
                 rw [show RCs [x] = encR x by simp [RCs]]
                 exact hO3.low HBC.out.size)
               have HB4 := Lib.hid (show Below w.heap.size w w4 from below_then HBC.out (Mem.Below.then_mod HB23.out hM3 (fun i hi e => by have := (HO2.out.lt e).1; omega) (Nat.le_refl _)) HBC.out.size)
               clear hO3 hM3))
                go_roundw
                case rel => exact ⟨i + 1, cr + 1, A3, c3, rfl, by go_num, hlt, HB4.out, HO3.out, by rw [HGR.out, (insR_perm x row).length_eq, List.length_cons, ← HNR.out], fun h => absurd h (Nat.succ_ne_zero _)⟩
                case measure => simp [intOf]; omega
    · obtain rfl : i = N := by omega
      obtain ⟨B0, hB0⟩ : ∃ B0, B0 = wr.heap.size := ⟨_, rfl⟩
      have HS2 := Lib.hid (show ∀ W, Below B0 wr W → RdV W R (RCs (rowF l gl i)) from fun W hb => HSR.out.rd.below (by rw [← hB0]; exact hb))
      have HWB := Lib.hid (show ∀ W, Below B0 wr W → Below w.heap.size w W from fun W hb => below_then HBR.out (by rw [← hB0]; exact hb) HBR.out.size)
      have HBS := Lib.hid (show w.heap.size ≤ B0 from by rw [hB0]; exact HBR.out.size)
      have HBZ := Lib.hid (show B0 ≤ wr.heap.size from by rw [hB0]; exact Nat.le_refl _)
      obtain ⟨t, ht⟩ : ∃ t : Nat, (n : Int) * part / 100 = (t : Int) := by
        have : 0 ≤ (n : Int) * part := Int.mul_nonneg (by omega) (by omega)
        exact ⟨((n : Int) * part / 100).toNat, by omega⟩
      have hb : (n : Int) * part ≤ (n : Int) * 100 := Int.mul_le_mul_of_nonneg_left (by omega) (by omega)
      have hb0 : 0 ≤ (n : Int) * part := Int.mul_nonneg (by omega) (by omega)
      have htn : t ≤ n := by omega
      have HC2 := Lib.hid (show ch = (rowF l gl i).take t by rw [HCH.out, ← HNR.out, ht]; rfl)
      have w1' : IntKind.i64.wrap ((n : Int) * part) = (n : Int) * part := by rw [IntKind.wrap_i64]; omega
      have w2' : IntKind.i64.wrap ((n : Int) * part / 100) = (t : Int) := by rw [ht, IntKind.wrap_i64]; omega
      have wt : Int.tdiv ((n : Int) * part) 100 = (t : Int) := by rw [Int.tdiv_eq_ediv_of_nonneg hb0]; exact ht
      have hn2 : (n : Int) ≤ 1000 := by omega
      generalize rowF l gl i = row at *
      clear HCH hB0
      go_wp2
      go_loopw [13, 14] (fun vo vj w2 => ∃ (j : Nat) (O : Option Addr) (co : Nat), vo = .slice O j co ∧ vj = .int .i64 j ∧ j ≤ t ∧ Below B0 wr w2 ∧ B0 ≤ w2.heap.size ∧ App.Own w2 B0 2 O j co (LQ (idsR (row.take j)))) (fun _ vj _ => t - (intOf vj).toNat)
      case atStart => exact ⟨0, none, 0, rfl, rfl, Nat.zero_le _, Below.refl _ _, HBZ.out, App.Own.nil _ _ _⟩
      case round =>
        obtain ⟨j, O, co, rfl, rfl, hj, hB, hZ, hO⟩ := hrel
        have HZ := Lib.hid hZ
        have HBJ := Lib.hid hB
        have HOJ := Lib.hid hO
        clear hB hO hZ
        by_cases hjt : j < t
        · have jz : (j : Int) < (t : Int) := by omega
          have jz2 : (j : Int) < (n : Int) := by omega
          have jz3 : j < n := by omega
          have hjl : j < row.length := by rw [← HNR.out]; exact jz3
          obtain ⟨b2, o2, rfl⟩ := rd_some (HS2.out _ HBJ.out) (by omega)
          obtain ⟨q0, -⟩ := rd5 (HS2.out _ HBJ.out) hjl
          have HID := Lib.hid (idsR_snoc hjl)
          obtain ⟨r, hrr⟩ : ∃ r, r = row[j]!.id := ⟨_, rfl⟩
          rw [← hrr] at q0 HID
          clear hrr
          have HB4 := Lib.hid (show Below wr.heap.size wr (wr.alloc (.cells #[.int .i64 r] 2)) from (Below.refl _ _).alloc (Nat.le_refl _) _)
          go_wp2_with (at_builtin; refine wpAppQ rfl _ _ rfl B0 O j co (idsR (row.take j)) rfl (HOJ.out.below HB4.out) wr.heap.size 1 r rfl (by simp) (by omega) (Nat.le_trans HZ.out HB4.out.size) ?_; intro A2 c2 w5 hO2 hM2; have HO2 := Lib.hid hO2; have HB5 := Lib.hid (show Below B0 wr w5 from Mem.Below.then_mod (HB4.out.mono HZ.out) hM2 (fun i hi e => by omega) HZ.out); clear hO2 hM2)
          go_roundw
          case rel => exact ⟨j + 1, A2, c2, rfl, by go_num, hjt, HBJ.out.trans HB5.out, Nat.le_trans HZ.out HB5.out.size, by rw [HID.out]; exact HO2.out⟩
          case measure => simp [intOf]; omega
        · obtain rfl : j = t := by omega
          have HF := Lib.hid (show ChoR w (idsR ch) 0 (.returned (.tuple #[.slice O j co, .int .i64 0])) wr from by
            rw [HC2.out]
            have hlen : (idsR (row.take j)).length = j := by unfold idsR; rw [List.length_map, List.length_take, ← HNR.out]; omega
            exact ⟨O, co, by rw [hlen], by rw [hlen]; exact HOJ.out.low HBS.out, HWB.out _ HBJ.out⟩)
          go_wp2
          go_ret2
          exact HF.out
end Go.Proofs.Ytcblhfjgdkbinaa.Re
