/- The walk of Turn of package phase. -/
import Derived.Test.YtcmicmghnmklnaaPhJ
import Derived.Laws.EntriesVeiled
namespace Go.Proofs.Ytcmicmghnmklnaa.Ph
open Go.RowKit Go.Proofs.Ytcmicmghnmklnaa.Mem Go.Proofs.Ytcmicmghnmklnaa.Sl Go.Shelf
set_option linter.unusedVariables false

/-- A turn of a kind at a variable: what is left, the value. -/
def valM (k : Int) (m : PM) (i : Nat) : PM × Bool :=
  if k = 0 then (m, m.start) else if k = 1 then (m, !m.start) else if k = 2 then (m, decide (0 < m.bv.getD i 0) || (m.bv.getD i 0 == 0 && m.saved.getD i false))
  else if k = 3 then (drawM m, m.saved.getD i false != decide (nextN m.state.toNat % 8 = 0)) else (drawM m, decide (nextN m.state.toNat % 2 = 1))
def stepM (k : Int) (m : PM) (i : Nat) : PM := { (valM k m i).1 with saved := (valM k m i).1.saved.set i (valM k m i).2 }
def loopM (k : Int) (m : PM) (n : Nat) : PM := (List.range n).foldl (stepM k) m
theorem loopM_succ (k : Int) (m : PM) (n : Nat) : loopM k m (n + 1) = stepM k (loopM k m n) n := by
  unfold loopM; rw [List.range_succ, List.foldl_append]; rfl
def endM (k : Int) (m : PM) (t : Int) : PM := { m with tn := 0, tv := [], bn := (if k = 2 then 0 else m.bn), bv := (if k = 2 then [] else m.bv), turned := t }
def turnM (m : PM) : PM := endM (kindN m.turned) (loopM (kindN m.turned) m m.saved.length) (m.turned + 1)
theorem valM_saved (k : Int) (m : PM) (i : Nat) : (valM k m i).1.saved = m.saved := by unfold valM; split <;> (try split) <;> (try split) <;> (try split) <;> rfl
theorem stepM_len (k : Int) (m : PM) (i : Nat) : (stepM k m i).saved.length = m.saved.length := by simp [stepM, valM_saved]
theorem loopM_len (k : Int) (m : PM) (n : Nat) : (loopM k m n).saved.length = m.saved.length := by
  induction n with
  | zero => rfl
  | succ n ih => rw [loopM_succ, stepM_len, ih]
def kfun (k : Int) : FuncId := if k = 0 then 28 else if k = 1 then 29 else if k = 2 then 30 else if k = 3 then 31 else 32
/-- What a turn at a variable does, in one word for all five. -/
def Val (w : World) (B g : Nat) (p : PV) (k : Int) (i : Nat) (e : Ending) (w' : World) : Prop :=
  ∃ p', e = .returned (.bool (valM k p.abs i).2) ∧ Ph w' B g p' ∧ p'.abs = (valM k p.abs i).1 ∧ p'.sb = p.sb ∧ p'.scap = p.scap ∧ Mod (fun j => j = g) w w'
theorem val_ok {w : World} {B g : Nat} {p : PV} (h : Ph w B g p) (k : Int) (hk : k = 0 ∨ k = 1 ∨ k = 2 ∨ k = 3 ∨ k = 4) (i : Nat) (hi : i < p.saved.length) :
    Calls Try.prog (kfun k) #[.pointer (some ⟨g, 0, none⟩), .int .i64 i] w (Val w B g p k i) := by
  rcases hk with rfl | rfl | rfl | rfl | rfl
  · refine (original_ok h i).mono ?_
    rintro e w' ⟨rfl, rfl⟩
    exact ⟨p, rfl, h, rfl, rfl, rfl, Mod.refl _ _⟩
  · refine (inverted_ok h i).mono ?_
    rintro e w' ⟨rfl, rfl⟩
    exact ⟨p, rfl, h, rfl, rfl, rfl, Mod.refl _ _⟩
  · refine (best_ok h i hi).mono ?_
    rintro e w' ⟨rfl, hb⟩
    exact ⟨p, rfl, h.below hb, rfl, rfl, rfl, Mod.none_ hb _⟩
  · refine (walk_ok h i hi).mono ?_
    rintro e w' ⟨rfl, hb⟩
    exact ⟨_, rfl, hb.1, rfl, rfl, rfl, hb.2⟩
  · refine (random_ok h i).mono ?_
    rintro e w' ⟨rfl, hb⟩
    exact ⟨_, rfl, hb.1, rfl, rfl, rfl, hb.2⟩
theorem Ph.put {w : World} {B g : Nat} {q : PV} (h : Ph w B g q) (k : Nat) (hk : k < q.saved.length) (b : Bool) : Ph (w.setCell ⟨q.sb, k, none⟩ (.bool b)) B g { q with saved := q.saved.set k b } :=
  h.saved_ (Mod.setCell (Mod.refl (fun i => i = q.sb) w) (p := ⟨q.sb, k, none⟩) (.inl rfl) _) _ (by simpa [List.map_set] using h.row.set_ k (by simpa using hk) (.bool b)) (by simp)
theorem valM_turned (k : Int) (m : PM) (i : Nat) : (valM k m i).1.turned = m.turned := by unfold valM; split <;> (try split) <;> (try split) <;> (try split) <;> rfl
theorem loopM_turned (k : Int) (m : PM) (n : Nat) : (loopM k m n).turned = m.turned := by
  induction n with
  | zero => rfl
  | succ n ih => rw [loopM_succ]; exact (valM_turned k (loopM k m n) n).trans ih
theorem Ph.clear1 {w w' : World} {B g : Nat} {q : PV} (h : Ph w B g q) (hm : Mod (fun i => i = g) w w') (t : Int) (ht : 0 ≤ t) (hb : Blk w' g 62 (PhC { q with tn := 0, tA := none, tl := 0, tv := [], turned := t })) : Ph w' B g { q with tn := 0, tA := none, tl := 0, tv := [], turned := t } :=
  ⟨hb, h.row.mod hm (fun e => h.row.ne_blk h.blk (by decide) e), h.bg, h.bs, .inl ⟨rfl, rfl, rfl⟩, h.b.mod hm (fun i _ cs hc => h.ne_i8 hc), h.len, h.st0, h.st1, ht, Int.le_refl _, h.bn0⟩
theorem Ph.clear2 {w w' : World} {B g : Nat} {q : PV} (h : Ph w B g q) (hm : Mod (fun i => i = g) w w') (t : Int) (ht : 0 ≤ t) (hb : Blk w' g 62 (PhC { q with tn := 0, tA := none, tl := 0, tv := [], bn := 0, bA := none, bl := 0, bv := [], turned := t })) : Ph w' B g { q with tn := 0, tA := none, tl := 0, tv := [], bn := 0, bA := none, bl := 0, bv := [], turned := t } :=
  ⟨hb, h.row.mod hm (fun e => h.row.ne_blk h.blk (by decide) e), h.bg, h.bs, .inl ⟨rfl, rfl, rfl⟩, .inl ⟨rfl, rfl, rfl⟩, h.len, h.st0, h.st1, ht, Int.le_refl _, Int.le_refl _⟩
theorem kindN_cases (t : Int) (h : 0 ≤ t) : kindN t = 0 ∨ kindN t = 1 ∨ kindN t = 2 ∨ kindN t = 3 ∨ kindN t = 4 := by
  unfold kindN
  by_cases h2 : t < 2
  · rw [if_pos h2]; omega
  · rw [if_neg h2]
    have hr : (t - 2) % 6 = 0 ∨ (t - 2) % 6 = 1 ∨ (t - 2) % 6 = 2 ∨ (t - 2) % 6 = 3 ∨ (t - 2) % 6 = 4 ∨ (t - 2) % 6 = 5 := by omega
    rcases hr with hr | hr | hr | hr | hr | hr <;> (rw [hr]; simp)
theorem turn_nil (w : World) : Calls Try.prog 14 #[.pointer none] w fun e w' => e = .returned (.tuple #[.int .u8 0, .int .i64 1]) ∧ w = w' := by
  go_enter Try.func14, Try.ntmps14
  go_wp2
  go_ret2
  exact ⟨rfl, rfl⟩
set_option maxRecDepth 100000 in
set_option maxHeartbeats 8000000 in
theorem turn_ok {w : World} {B g : Nat} {p : PV} (h : Ph w B g p) (hB : B ≤ w.heap.size) (hg : g ≠ p.sb) (ht : p.turned ≤ 4611686018427387904) :
    Calls Try.prog 14 #[.pointer (some ⟨g, 0, none⟩)] w fun e w' => ∃ p', e = .returned (.tuple #[.int .u8 (kindN p.turned), .int .i64 0]) ∧ Ph w' B g p' ∧ p'.abs = turnM p.abs ∧ p'.sb = p.sb ∧ Mod (Two g p.sb) w w' := by
  have HP := Lib.hid h
  have HK := Lib.hid (kindN_cases p.turned h.tu0)
  have HC := Lib.hid (fun W => kind_ok p.turned h.tu0 ht W)
  have c7 : w.cell? ⟨g, 7, none⟩ = some (.int .i64 p.turned) := h.blk.cell 7
  have c0 : w.cell? ⟨g, 0, none⟩ = some (.slice (some ⟨p.sb, 0, none⟩) p.saved.length p.scap) := h.blk.cell 0
  have hlt := h.blk.lt
  clear h
  go_enter Try.func14, Try.ntmps14
  go_upto_region 4 with (fail)
  obtain ⟨W, hW⟩ : ∃ W, W = w.alloc (.cells #[.func (.func 28) #[] #[], .func (.func 29) #[] #[], .func (.func 30) #[] #[], .func (.func 31) #[] #[], .func (.func 32) #[] #[]] 71) := ⟨_, rfl⟩
  rw [← hW]
  have k0 := Blk.new w 71 #[.func (.func 28) #[] #[], .func (.func 29) #[] #[], .func (.func 30) #[] #[], .func (.func 31) #[] #[], .func (.func 32) #[] #[]]
  rw [← hW] at k0
  have K0 := Lib.hid k0
  have KB := Lib.hid (show Below w.heap.size w W from hW ▸ (Below.refl _ w).alloc (Nat.le_refl _) _)
  have HP1 := Lib.hid (HP.out.below KB.out)
  have d7 : W.cell? ⟨g, 7, none⟩ = some (.int .i64 p.turned) := HP1.out.blk.cell 7
  have d0 : W.cell? ⟨g, 0, none⟩ = some (.slice (some ⟨p.sb, 0, none⟩) p.saved.length p.scap) := HP1.out.blk.cell 0
  have HN := Lib.hid HP1.out.len
  clear hW k0 c7 c0
  generalize hz : w.heap.size = z at *
  have HZ := Lib.hid hz
  clear hz
  go_wp2_with fail
  refine (HC.out _).mono ?_
  rintro e w1 ⟨rfl, rfl⟩
  generalize hkk : kindN p.turned = kk at *
  have HKK := Lib.hid hkk
  clear hkk
  go_wp2_with fail
  go_loopw [6, 20] (fun x i wr => ∃ (k : Nat) (q : PV), k ≤ p.saved.length ∧ i = .int .i64 k ∧ Ph wr B g q ∧ q.abs = loopM kk p.abs k ∧ q.sb = p.sb ∧ q.scap = p.scap ∧ Mod (Two g p.sb) w wr ∧ Blk wr z 71 #[.func (.func 28) #[] #[], .func (.func 29) #[] #[], .func (.func 30) #[] #[], .func (.func 31) #[] #[], .func (.func 32) #[] #[]]) (fun _ i _ => p.saved.length - (intOf i).toNat)
  case atStart => exact ⟨0, p, Nat.zero_le _, rfl, HP1.out, rfl, rfl, rfl, Mod.none_ (HZ.out ▸ KB.out) _, K0.out⟩
  case round =>
    obtain ⟨k, q, hk, rfl, hq, ha, hsb, hsc, hm, hkb⟩ := hrel
    have HQ := Lib.hid hq
    have HA := Lib.hid ha
    have HSB := Lib.hid hsb
    have HSC := Lib.hid hsc
    have HM := Lib.hid hm
    have HKB := Lib.hid hkb
    have hql : q.saved.length = p.saved.length := by
      have := congrArg (fun m => m.saved.length) ha
      exact this.trans (loopM_len _ _ _)
    have HQL := Lib.hid hql
    have HZS := Lib.hid (show z ≠ p.sb from fun e => by have := HP.out.row.lt; have := HZ.out; omega)
    have c0 : wr.cell? ⟨g, 0, none⟩ = some (.slice (some ⟨p.sb, 0, none⟩) p.saved.length p.scap) := by
      rw [hq.blk.cell 0, ← hql, ← hsb, ← hsc]; rfl
    have hNN := HN.out
    clear hq ha hsb hsc hm hkb
    by_cases hlk : k < p.saved.length
    · have hqk : k < q.saved.length := by omega
      rcases HK.out with rfl | rfl | rfl | rfl | rfl
      · have ca : wr.cell? ⟨z, 0, none⟩ = some (.func (.func 28) #[] #[]) := HKB.out.cell 0
        have HV := Lib.hid (show Calls Try.prog 28 _ _ _ from val_ok (w := wr.drew) (HQ.out.drewN 1) 0 (by decide) k hqk)
        have KEEP := Lib.hid (show ∀ (w1 : World) (q1 : PV), Ph w1 B g q1 → q1.saved = q.saved → q1.sb = q.sb → q1.scap = q.scap → Mem.Mod (fun j => j = g) wr.drew w1 → (w1.cell? ⟨g, 0, none⟩ = some (.slice (some ⟨p.sb, 0, none⟩) p.saved.length p.scap) ∧ w1.cell? ⟨z, 0, none⟩ = some (.func (.func 28) #[] #[])) ∧
            (∀ b : Bool, (w1.setCell ⟨p.sb, k, none⟩ (.bool b)).cell? ⟨g, 0, none⟩ = some (.slice (some ⟨p.sb, 0, none⟩) p.saved.length p.scap) ∧ (w1.setCell ⟨p.sb, k, none⟩ (.bool b)).cell? ⟨z, 0, none⟩ = some (.func (.func 28) #[] #[])) ∧
            w1.cell? ⟨p.sb, k, none⟩ = some (.bool (q1.saved.getD k false)) ∧ w1.frozen? ⟨p.sb, k, none⟩ = false from fun w1 q1 h1 e1 e2 e3 hm1 => by
          have b1 := h1.blk
          have b2 : Blk w1 z _ _ := Blk.mod (S := fun j => j = g) (Blk.drew HKB.out) hm1 (show ¬ z = g by omega)
          have hr := h1.row
          rw [e2, HSB.out] at hr
          have hzs : z ≠ p.sb := HZS.out
          refine ⟨⟨?_, b2.cell 0⟩, fun b => ⟨?_, (Blk.far b2 (show z ≠ p.sb from hzs) _).cell 0⟩, hr.cell (bools_at (by rw [e1]; exact hqk)), hr.frozen k⟩
          · rw [b1.cell 0, ← hql, ← HSB.out, ← HSC.out, ← e1, ← e2, ← e3]; rfl
          · rw [(Blk.far b1 (show g ≠ p.sb from hg) _).cell 0, ← hql, ← HSB.out, ← HSC.out, ← e1, ← e2, ← e3]; rfl)
        go_wp2_with fail
        go_region_held3 (fun w' => w'.cell? ⟨g, 0, none⟩ = some (.slice (some ⟨p.sb, 0, none⟩) p.saved.length p.scap) ∧ w'.cell? ⟨z, 0, none⟩ = some (.func (.func 28) #[] #[])) (first | exact ⟨c0, ca⟩ | exact k1 | exact k2 _)
          ((go_at_call 28
            refine HV.out.mono ?_
            rintro e w1 ⟨q1, rfl, h1, ha1, hs1, hc1, hm1⟩
            have HS1 := Lib.hid (show q1.saved = q.saved from (congrArg PM.saved ha1).trans (valM_saved 0 q.abs k))
            obtain ⟨k1, k2, k3, k4⟩ := KEEP.out w1 q1 h1 HS1.out hs1 hc1 hm1
            have H1 := Lib.hid h1
            have HA1 := Lib.hid ha1
            have HB1 := Lib.hid (hs1.trans HSB.out)
            have HC1 := Lib.hid (hc1.trans HSC.out)
            have HM1 := Lib.hid hm1
            clear h1 ha1 hs1 hc1 hm1))
        go_wp2
        go_roundw
        case rel =>
          have hput : Ph (w1.setCell ⟨p.sb, k, none⟩ (.bool (valM 0 q.abs k).2)) B g { q1 with saved := q1.saved.set k (valM 0 q.abs k).2 } := by
            have e : (⟨p.sb, k, none⟩ : Addr) = ⟨q1.sb, k, none⟩ := by rw [HB1.out]
            rw [e]
            exact H1.out.put k (by rw [HS1.out]; exact hqk) (valM 0 q.abs k).2
          refine ⟨k + 1, { q1 with saved := q1.saved.set k (valM 0 q.abs k).2 }, by omega, by go_num, hput, ?_, HB1.out, HC1.out, Mod.setCell (Mod.then_ HM.out.drew (HM1.out.mono (fun i _ e => .inl e))) (.inl (.inr rfl)) _,
            Blk.far (Blk.mod (S := fun j => j = g) (Blk.drew HKB.out) HM1.out (show ¬ z = g by omega)) (show z ≠ p.sb from HZS.out) _⟩
          rw [loopM_succ, ← HA.out]
          unfold stepM
          rw [← HA1.out]
          rfl
        case measure => simp [intOf]; omega
      · have ca : wr.cell? ⟨z, 1, none⟩ = some (.func (.func 29) #[] #[]) := HKB.out.cell 1
        have HV := Lib.hid (show Calls Try.prog 29 _ _ _ from val_ok (w := wr.drew) (HQ.out.drewN 1) 1 (by decide) k hqk)
        have KEEP := Lib.hid (show ∀ (w1 : World) (q1 : PV), Ph w1 B g q1 → q1.saved = q.saved → q1.sb = q.sb → q1.scap = q.scap → Mem.Mod (fun j => j = g) wr.drew w1 → (w1.cell? ⟨g, 0, none⟩ = some (.slice (some ⟨p.sb, 0, none⟩) p.saved.length p.scap) ∧ w1.cell? ⟨z, 1, none⟩ = some (.func (.func 29) #[] #[])) ∧
            (∀ b : Bool, (w1.setCell ⟨p.sb, k, none⟩ (.bool b)).cell? ⟨g, 0, none⟩ = some (.slice (some ⟨p.sb, 0, none⟩) p.saved.length p.scap) ∧ (w1.setCell ⟨p.sb, k, none⟩ (.bool b)).cell? ⟨z, 1, none⟩ = some (.func (.func 29) #[] #[])) ∧
            w1.cell? ⟨p.sb, k, none⟩ = some (.bool (q1.saved.getD k false)) ∧ w1.frozen? ⟨p.sb, k, none⟩ = false from fun w1 q1 h1 e1 e2 e3 hm1 => by
          have b1 := h1.blk
          have b2 : Blk w1 z _ _ := Blk.mod (S := fun j => j = g) (Blk.drew HKB.out) hm1 (show ¬ z = g by omega)
          have hr := h1.row
          rw [e2, HSB.out] at hr
          have hzs : z ≠ p.sb := HZS.out
          refine ⟨⟨?_, b2.cell 1⟩, fun b => ⟨?_, (Blk.far b2 (show z ≠ p.sb from hzs) _).cell 1⟩, hr.cell (bools_at (by rw [e1]; exact hqk)), hr.frozen k⟩
          · rw [b1.cell 0, ← hql, ← HSB.out, ← HSC.out, ← e1, ← e2, ← e3]; rfl
          · rw [(Blk.far b1 (show g ≠ p.sb from hg) _).cell 0, ← hql, ← HSB.out, ← HSC.out, ← e1, ← e2, ← e3]; rfl)
        go_wp2_with fail
        go_region_held3 (fun w' => w'.cell? ⟨g, 0, none⟩ = some (.slice (some ⟨p.sb, 0, none⟩) p.saved.length p.scap) ∧ w'.cell? ⟨z, 1, none⟩ = some (.func (.func 29) #[] #[])) (first | exact ⟨c0, ca⟩ | exact k1 | exact k2 _)
          ((go_at_call 29
            refine HV.out.mono ?_
            rintro e w1 ⟨q1, rfl, h1, ha1, hs1, hc1, hm1⟩
            have HS1 := Lib.hid (show q1.saved = q.saved from (congrArg PM.saved ha1).trans (valM_saved 1 q.abs k))
            obtain ⟨k1, k2, k3, k4⟩ := KEEP.out w1 q1 h1 HS1.out hs1 hc1 hm1
            have H1 := Lib.hid h1
            have HA1 := Lib.hid ha1
            have HB1 := Lib.hid (hs1.trans HSB.out)
            have HC1 := Lib.hid (hc1.trans HSC.out)
            have HM1 := Lib.hid hm1
            clear h1 ha1 hs1 hc1 hm1))
        go_wp2
        go_roundw
        case rel =>
          have hput : Ph (w1.setCell ⟨p.sb, k, none⟩ (.bool (valM 1 q.abs k).2)) B g { q1 with saved := q1.saved.set k (valM 1 q.abs k).2 } := by
            have e : (⟨p.sb, k, none⟩ : Addr) = ⟨q1.sb, k, none⟩ := by rw [HB1.out]
            rw [e]
            exact H1.out.put k (by rw [HS1.out]; exact hqk) (valM 1 q.abs k).2
          refine ⟨k + 1, { q1 with saved := q1.saved.set k (valM 1 q.abs k).2 }, by omega, by go_num, hput, ?_, HB1.out, HC1.out, Mod.setCell (Mod.then_ HM.out.drew (HM1.out.mono (fun i _ e => .inl e))) (.inl (.inr rfl)) _,
            Blk.far (Blk.mod (S := fun j => j = g) (Blk.drew HKB.out) HM1.out (show ¬ z = g by omega)) (show z ≠ p.sb from HZS.out) _⟩
          rw [loopM_succ, ← HA.out]
          unfold stepM
          rw [← HA1.out]
          rfl
        case measure => simp [intOf]; omega
      · have ca : wr.cell? ⟨z, 2, none⟩ = some (.func (.func 30) #[] #[]) := HKB.out.cell 2
        have HV := Lib.hid (show Calls Try.prog 30 _ _ _ from val_ok (w := wr.drew) (HQ.out.drewN 1) 2 (by decide) k hqk)
        have KEEP := Lib.hid (show ∀ (w1 : World) (q1 : PV), Ph w1 B g q1 → q1.saved = q.saved → q1.sb = q.sb → q1.scap = q.scap → Mem.Mod (fun j => j = g) wr.drew w1 → (w1.cell? ⟨g, 0, none⟩ = some (.slice (some ⟨p.sb, 0, none⟩) p.saved.length p.scap) ∧ w1.cell? ⟨z, 2, none⟩ = some (.func (.func 30) #[] #[])) ∧
            (∀ b : Bool, (w1.setCell ⟨p.sb, k, none⟩ (.bool b)).cell? ⟨g, 0, none⟩ = some (.slice (some ⟨p.sb, 0, none⟩) p.saved.length p.scap) ∧ (w1.setCell ⟨p.sb, k, none⟩ (.bool b)).cell? ⟨z, 2, none⟩ = some (.func (.func 30) #[] #[])) ∧
            w1.cell? ⟨p.sb, k, none⟩ = some (.bool (q1.saved.getD k false)) ∧ w1.frozen? ⟨p.sb, k, none⟩ = false from fun w1 q1 h1 e1 e2 e3 hm1 => by
          have b1 := h1.blk
          have b2 : Blk w1 z _ _ := Blk.mod (S := fun j => j = g) (Blk.drew HKB.out) hm1 (show ¬ z = g by omega)
          have hr := h1.row
          rw [e2, HSB.out] at hr
          have hzs : z ≠ p.sb := HZS.out
          refine ⟨⟨?_, b2.cell 2⟩, fun b => ⟨?_, (Blk.far b2 (show z ≠ p.sb from hzs) _).cell 2⟩, hr.cell (bools_at (by rw [e1]; exact hqk)), hr.frozen k⟩
          · rw [b1.cell 0, ← hql, ← HSB.out, ← HSC.out, ← e1, ← e2, ← e3]; rfl
          · rw [(Blk.far b1 (show g ≠ p.sb from hg) _).cell 0, ← hql, ← HSB.out, ← HSC.out, ← e1, ← e2, ← e3]; rfl)
        go_wp2_with fail
        go_region_held3 (fun w' => w'.cell? ⟨g, 0, none⟩ = some (.slice (some ⟨p.sb, 0, none⟩) p.saved.length p.scap) ∧ w'.cell? ⟨z, 2, none⟩ = some (.func (.func 30) #[] #[])) (first | exact ⟨c0, ca⟩ | exact k1 | exact k2 _)
          ((go_at_call 30
            refine HV.out.mono ?_
            rintro e w1 ⟨q1, rfl, h1, ha1, hs1, hc1, hm1⟩
            have HS1 := Lib.hid (show q1.saved = q.saved from (congrArg PM.saved ha1).trans (valM_saved 2 q.abs k))
            obtain ⟨k1, k2, k3, k4⟩ := KEEP.out w1 q1 h1 HS1.out hs1 hc1 hm1
            have H1 := Lib.hid h1
            have HA1 := Lib.hid ha1
            have HB1 := Lib.hid (hs1.trans HSB.out)
            have HC1 := Lib.hid (hc1.trans HSC.out)
            have HM1 := Lib.hid hm1
            clear h1 ha1 hs1 hc1 hm1))
        go_wp2
        go_roundw
        case rel =>
          have hput : Ph (w1.setCell ⟨p.sb, k, none⟩ (.bool (valM 2 q.abs k).2)) B g { q1 with saved := q1.saved.set k (valM 2 q.abs k).2 } := by
            have e : (⟨p.sb, k, none⟩ : Addr) = ⟨q1.sb, k, none⟩ := by rw [HB1.out]
            rw [e]
            exact H1.out.put k (by rw [HS1.out]; exact hqk) (valM 2 q.abs k).2
          refine ⟨k + 1, { q1 with saved := q1.saved.set k (valM 2 q.abs k).2 }, by omega, by go_num, hput, ?_, HB1.out, HC1.out, Mod.setCell (Mod.then_ HM.out.drew (HM1.out.mono (fun i _ e => .inl e))) (.inl (.inr rfl)) _,
            Blk.far (Blk.mod (S := fun j => j = g) (Blk.drew HKB.out) HM1.out (show ¬ z = g by omega)) (show z ≠ p.sb from HZS.out) _⟩
          rw [loopM_succ, ← HA.out]
          unfold stepM
          rw [← HA1.out]
          rfl
        case measure => simp [intOf]; omega
      · have ca : wr.cell? ⟨z, 3, none⟩ = some (.func (.func 31) #[] #[]) := HKB.out.cell 3
        have HV := Lib.hid (show Calls Try.prog 31 _ _ _ from val_ok (w := wr.drew) (HQ.out.drewN 1) 3 (by decide) k hqk)
        have KEEP := Lib.hid (show ∀ (w1 : World) (q1 : PV), Ph w1 B g q1 → q1.saved = q.saved → q1.sb = q.sb → q1.scap = q.scap → Mem.Mod (fun j => j = g) wr.drew w1 → (w1.cell? ⟨g, 0, none⟩ = some (.slice (some ⟨p.sb, 0, none⟩) p.saved.length p.scap) ∧ w1.cell? ⟨z, 3, none⟩ = some (.func (.func 31) #[] #[])) ∧
            (∀ b : Bool, (w1.setCell ⟨p.sb, k, none⟩ (.bool b)).cell? ⟨g, 0, none⟩ = some (.slice (some ⟨p.sb, 0, none⟩) p.saved.length p.scap) ∧ (w1.setCell ⟨p.sb, k, none⟩ (.bool b)).cell? ⟨z, 3, none⟩ = some (.func (.func 31) #[] #[])) ∧
            w1.cell? ⟨p.sb, k, none⟩ = some (.bool (q1.saved.getD k false)) ∧ w1.frozen? ⟨p.sb, k, none⟩ = false from fun w1 q1 h1 e1 e2 e3 hm1 => by
          have b1 := h1.blk
          have b2 : Blk w1 z _ _ := Blk.mod (S := fun j => j = g) (Blk.drew HKB.out) hm1 (show ¬ z = g by omega)
          have hr := h1.row
          rw [e2, HSB.out] at hr
          have hzs : z ≠ p.sb := HZS.out
          refine ⟨⟨?_, b2.cell 3⟩, fun b => ⟨?_, (Blk.far b2 (show z ≠ p.sb from hzs) _).cell 3⟩, hr.cell (bools_at (by rw [e1]; exact hqk)), hr.frozen k⟩
          · rw [b1.cell 0, ← hql, ← HSB.out, ← HSC.out, ← e1, ← e2, ← e3]; rfl
          · rw [(Blk.far b1 (show g ≠ p.sb from hg) _).cell 0, ← hql, ← HSB.out, ← HSC.out, ← e1, ← e2, ← e3]; rfl)
        go_wp2_with fail
        go_region_held3 (fun w' => w'.cell? ⟨g, 0, none⟩ = some (.slice (some ⟨p.sb, 0, none⟩) p.saved.length p.scap) ∧ w'.cell? ⟨z, 3, none⟩ = some (.func (.func 31) #[] #[])) (first | exact ⟨c0, ca⟩ | exact k1 | exact k2 _)
          ((go_at_call 31
            refine HV.out.mono ?_
            rintro e w1 ⟨q1, rfl, h1, ha1, hs1, hc1, hm1⟩
            have HS1 := Lib.hid (show q1.saved = q.saved from (congrArg PM.saved ha1).trans (valM_saved 3 q.abs k))
            obtain ⟨k1, k2, k3, k4⟩ := KEEP.out w1 q1 h1 HS1.out hs1 hc1 hm1
            have H1 := Lib.hid h1
            have HA1 := Lib.hid ha1
            have HB1 := Lib.hid (hs1.trans HSB.out)
            have HC1 := Lib.hid (hc1.trans HSC.out)
            have HM1 := Lib.hid hm1
            clear h1 ha1 hs1 hc1 hm1))
        go_wp2
        go_roundw
        case rel =>
          have hput : Ph (w1.setCell ⟨p.sb, k, none⟩ (.bool (valM 3 q.abs k).2)) B g { q1 with saved := q1.saved.set k (valM 3 q.abs k).2 } := by
            have e : (⟨p.sb, k, none⟩ : Addr) = ⟨q1.sb, k, none⟩ := by rw [HB1.out]
            rw [e]
            exact H1.out.put k (by rw [HS1.out]; exact hqk) (valM 3 q.abs k).2
          refine ⟨k + 1, { q1 with saved := q1.saved.set k (valM 3 q.abs k).2 }, by omega, by go_num, hput, ?_, HB1.out, HC1.out, Mod.setCell (Mod.then_ HM.out.drew (HM1.out.mono (fun i _ e => .inl e))) (.inl (.inr rfl)) _,
            Blk.far (Blk.mod (S := fun j => j = g) (Blk.drew HKB.out) HM1.out (show ¬ z = g by omega)) (show z ≠ p.sb from HZS.out) _⟩
          rw [loopM_succ, ← HA.out]
          unfold stepM
          rw [← HA1.out]
          rfl
        case measure => simp [intOf]; omega
      · have ca : wr.cell? ⟨z, 4, none⟩ = some (.func (.func 32) #[] #[]) := HKB.out.cell 4
        have HV := Lib.hid (show Calls Try.prog 32 _ _ _ from val_ok (w := wr.drew) (HQ.out.drewN 1) 4 (by decide) k hqk)
        have KEEP := Lib.hid (show ∀ (w1 : World) (q1 : PV), Ph w1 B g q1 → q1.saved = q.saved → q1.sb = q.sb → q1.scap = q.scap → Mem.Mod (fun j => j = g) wr.drew w1 → (w1.cell? ⟨g, 0, none⟩ = some (.slice (some ⟨p.sb, 0, none⟩) p.saved.length p.scap) ∧ w1.cell? ⟨z, 4, none⟩ = some (.func (.func 32) #[] #[])) ∧
            (∀ b : Bool, (w1.setCell ⟨p.sb, k, none⟩ (.bool b)).cell? ⟨g, 0, none⟩ = some (.slice (some ⟨p.sb, 0, none⟩) p.saved.length p.scap) ∧ (w1.setCell ⟨p.sb, k, none⟩ (.bool b)).cell? ⟨z, 4, none⟩ = some (.func (.func 32) #[] #[])) ∧
            w1.cell? ⟨p.sb, k, none⟩ = some (.bool (q1.saved.getD k false)) ∧ w1.frozen? ⟨p.sb, k, none⟩ = false from fun w1 q1 h1 e1 e2 e3 hm1 => by
          have b1 := h1.blk
          have b2 : Blk w1 z _ _ := Blk.mod (S := fun j => j = g) (Blk.drew HKB.out) hm1 (show ¬ z = g by omega)
          have hr := h1.row
          rw [e2, HSB.out] at hr
          have hzs : z ≠ p.sb := HZS.out
          refine ⟨⟨?_, b2.cell 4⟩, fun b => ⟨?_, (Blk.far b2 (show z ≠ p.sb from hzs) _).cell 4⟩, hr.cell (bools_at (by rw [e1]; exact hqk)), hr.frozen k⟩
          · rw [b1.cell 0, ← hql, ← HSB.out, ← HSC.out, ← e1, ← e2, ← e3]; rfl
          · rw [(Blk.far b1 (show g ≠ p.sb from hg) _).cell 0, ← hql, ← HSB.out, ← HSC.out, ← e1, ← e2, ← e3]; rfl)
        go_wp2_with fail
        go_region_held3 (fun w' => w'.cell? ⟨g, 0, none⟩ = some (.slice (some ⟨p.sb, 0, none⟩) p.saved.length p.scap) ∧ w'.cell? ⟨z, 4, none⟩ = some (.func (.func 32) #[] #[])) (first | exact ⟨c0, ca⟩ | exact k1 | exact k2 _)
          ((go_at_call 32
            refine HV.out.mono ?_
            rintro e w1 ⟨q1, rfl, h1, ha1, hs1, hc1, hm1⟩
            have HS1 := Lib.hid (show q1.saved = q.saved from (congrArg PM.saved ha1).trans (valM_saved 4 q.abs k))
            obtain ⟨k1, k2, k3, k4⟩ := KEEP.out w1 q1 h1 HS1.out hs1 hc1 hm1
            have H1 := Lib.hid h1
            have HA1 := Lib.hid ha1
            have HB1 := Lib.hid (hs1.trans HSB.out)
            have HC1 := Lib.hid (hc1.trans HSC.out)
            have HM1 := Lib.hid hm1
            clear h1 ha1 hs1 hc1 hm1))
        go_wp2
        go_roundw
        case rel =>
          have hput : Ph (w1.setCell ⟨p.sb, k, none⟩ (.bool (valM 4 q.abs k).2)) B g { q1 with saved := q1.saved.set k (valM 4 q.abs k).2 } := by
            have e : (⟨p.sb, k, none⟩ : Addr) = ⟨q1.sb, k, none⟩ := by rw [HB1.out]
            rw [e]
            exact H1.out.put k (by rw [HS1.out]; exact hqk) (valM 4 q.abs k).2
          refine ⟨k + 1, { q1 with saved := q1.saved.set k (valM 4 q.abs k).2 }, by omega, by go_num, hput, ?_, HB1.out, HC1.out, Mod.setCell (Mod.then_ HM.out.drew (HM1.out.mono (fun i _ e => .inl e))) (.inl (.inr rfl)) _,
            Blk.far (Blk.mod (S := fun j => j = g) (Blk.drew HKB.out) HM1.out (show ¬ z = g by omega)) (show z ≠ p.sb from HZS.out) _⟩
          rw [loopM_succ, ← HA.out]
          unfold stepM
          rw [← HA1.out]
          rfl
        case measure => simp [intOf]; omega
    · have hkn : k = p.saved.length := by omega
      have HT := Lib.hid (show q.abs = loopM kk p.abs p.saved.length by rw [HA.out, hkn])
      clear hkn
      have HTT := Lib.hid (show q.turned = p.turned from (congrArg PM.turned HA.out).trans (loopM_turned _ _ _))
      have f := fun i => HQ.out.blk.frozen i
      have d2 : wr.cell? ⟨g, 2, none⟩ = some (.int .i64 q.tn) := HQ.out.blk.cell 2
      have d3 : wr.cell? ⟨g, 3, none⟩ = some (.slice q.tA q.tl q.tl) := HQ.out.blk.cell 3
      have d4 : wr.cell? ⟨g, 4, none⟩ = some (.int .i64 q.bn) := HQ.out.blk.cell 4
      have d5 : wr.cell? ⟨g, 5, none⟩ = some (.slice q.bA q.bl q.bl) := HQ.out.blk.cell 5
      have d7' : wr.cell? ⟨g, 7, none⟩ = some (.int .i64 p.turned) := by rw [← HTT.out]; exact HQ.out.blk.cell 7
      have f2 := f 2
      have f3 := f 3
      have f4 := f 4
      have f5 := f 5
      have f7 := f 7
      have htu := HP.out.tu0
      clear f
      rcases HK.out with rfl | rfl | rfl | rfl | rfl
      · go_wp2
        go_ret2
        have hm3 : Mem.Mod (fun i => i = g) wr (((wr.setCell ⟨g, 2, none⟩ (.int .i64 0)).setCell ⟨g, 3, none⟩ (.slice none 0 0)).setCell ⟨g, 7, none⟩ (.int .i64 (p.turned + 1))) :=
          Mod.setCell (Mod.setCell (Mod.setCell (Mod.refl (fun i => i = g) wr) (p := ⟨g, 2, none⟩) (.inl rfl) _) (p := ⟨g, 3, none⟩) (.inl rfl) _) (p := ⟨g, 7, none⟩) (.inl rfl) _
        refine ⟨by rw [HKK.out]; rfl, _, HQ.out.clear1 hm3 (p.turned + 1) (by omega) ?_, ?_, HSB.out, HM.out.then_ (hm3.mono (fun i _ e => .inl e))⟩
        · have := Blk.set_ (Blk.set_ (Blk.set_ HQ.out.blk 2 (.int .i64 0)) 3 (.slice none 0 0)) 7 (.int .i64 (p.turned + 1))
          simpa [PhC] using this
        · show _ = endM (kindN p.turned) (loopM (kindN p.turned) p.abs p.saved.length) (p.turned + 1)
          rw [HKK.out, ← HT.out]
          rfl
      · go_wp2
        go_ret2
        have hm3 : Mem.Mod (fun i => i = g) wr (((wr.setCell ⟨g, 2, none⟩ (.int .i64 0)).setCell ⟨g, 3, none⟩ (.slice none 0 0)).setCell ⟨g, 7, none⟩ (.int .i64 (p.turned + 1))) :=
          Mod.setCell (Mod.setCell (Mod.setCell (Mod.refl (fun i => i = g) wr) (p := ⟨g, 2, none⟩) (.inl rfl) _) (p := ⟨g, 3, none⟩) (.inl rfl) _) (p := ⟨g, 7, none⟩) (.inl rfl) _
        refine ⟨by rw [HKK.out]; rfl, _, HQ.out.clear1 hm3 (p.turned + 1) (by omega) ?_, ?_, HSB.out, HM.out.then_ (hm3.mono (fun i _ e => .inl e))⟩
        · have := Blk.set_ (Blk.set_ (Blk.set_ HQ.out.blk 2 (.int .i64 0)) 3 (.slice none 0 0)) 7 (.int .i64 (p.turned + 1))
          simpa [PhC] using this
        · show _ = endM (kindN p.turned) (loopM (kindN p.turned) p.abs p.saved.length) (p.turned + 1)
          rw [HKK.out, ← HT.out]
          rfl
      · go_wp2
        go_ret2
        have hm3 : Mem.Mod (fun i => i = g) wr (((((wr.setCell ⟨g, 4, none⟩ (.int .i64 0)).setCell ⟨g, 5, none⟩ (.slice none 0 0)).setCell ⟨g, 2, none⟩ (.int .i64 0)).setCell ⟨g, 3, none⟩ (.slice none 0 0)).setCell ⟨g, 7, none⟩ (.int .i64 (p.turned + 1))) :=
          Mod.setCell (Mod.setCell (Mod.setCell (Mod.setCell (Mod.setCell (Mod.refl (fun i => i = g) wr) (p := ⟨g, 4, none⟩) (.inl rfl) _) (p := ⟨g, 5, none⟩) (.inl rfl) _) (p := ⟨g, 2, none⟩) (.inl rfl) _) (p := ⟨g, 3, none⟩) (.inl rfl) _) (p := ⟨g, 7, none⟩) (.inl rfl) _
        refine ⟨by rw [HKK.out]; rfl, _, HQ.out.clear2 hm3 (p.turned + 1) (by omega) ?_, ?_, HSB.out, HM.out.then_ (hm3.mono (fun i _ e => .inl e))⟩
        · have := Blk.set_ (Blk.set_ (Blk.set_ (Blk.set_ (Blk.set_ HQ.out.blk 4 (.int .i64 0)) 5 (.slice none 0 0)) 2 (.int .i64 0)) 3 (.slice none 0 0)) 7 (.int .i64 (p.turned + 1))
          simpa [PhC] using this
        · show _ = endM (kindN p.turned) (loopM (kindN p.turned) p.abs p.saved.length) (p.turned + 1)
          rw [HKK.out, ← HT.out]
          rfl
      · go_wp2
        go_ret2
        have hm3 : Mem.Mod (fun i => i = g) wr (((wr.setCell ⟨g, 2, none⟩ (.int .i64 0)).setCell ⟨g, 3, none⟩ (.slice none 0 0)).setCell ⟨g, 7, none⟩ (.int .i64 (p.turned + 1))) :=
          Mod.setCell (Mod.setCell (Mod.setCell (Mod.refl (fun i => i = g) wr) (p := ⟨g, 2, none⟩) (.inl rfl) _) (p := ⟨g, 3, none⟩) (.inl rfl) _) (p := ⟨g, 7, none⟩) (.inl rfl) _
        refine ⟨by rw [HKK.out]; rfl, _, HQ.out.clear1 hm3 (p.turned + 1) (by omega) ?_, ?_, HSB.out, HM.out.then_ (hm3.mono (fun i _ e => .inl e))⟩
        · have := Blk.set_ (Blk.set_ (Blk.set_ HQ.out.blk 2 (.int .i64 0)) 3 (.slice none 0 0)) 7 (.int .i64 (p.turned + 1))
          simpa [PhC] using this
        · show _ = endM (kindN p.turned) (loopM (kindN p.turned) p.abs p.saved.length) (p.turned + 1)
          rw [HKK.out, ← HT.out]
          rfl
      · go_wp2
        go_ret2
        have hm3 : Mem.Mod (fun i => i = g) wr (((wr.setCell ⟨g, 2, none⟩ (.int .i64 0)).setCell ⟨g, 3, none⟩ (.slice none 0 0)).setCell ⟨g, 7, none⟩ (.int .i64 (p.turned + 1))) :=
          Mod.setCell (Mod.setCell (Mod.setCell (Mod.refl (fun i => i = g) wr) (p := ⟨g, 2, none⟩) (.inl rfl) _) (p := ⟨g, 3, none⟩) (.inl rfl) _) (p := ⟨g, 7, none⟩) (.inl rfl) _
        refine ⟨by rw [HKK.out]; rfl, _, HQ.out.clear1 hm3 (p.turned + 1) (by omega) ?_, ?_, HSB.out, HM.out.then_ (hm3.mono (fun i _ e => .inl e))⟩
        · have := Blk.set_ (Blk.set_ (Blk.set_ HQ.out.blk 2 (.int .i64 0)) 3 (.slice none 0 0)) 7 (.int .i64 (p.turned + 1))
          simpa [PhC] using this
        · show _ = endM (kindN p.turned) (loopM (kindN p.turned) p.abs p.saved.length) (p.turned + 1)
          rw [HKK.out, ← HT.out]
          rfl
end Go.Proofs.Ytcmicmghnmklnaa.Ph
