/- Queue: what Bump leaves. Plain laws, no program in sight. -/
import Derived.Test.YtgldhnjbodmbbaaQh
namespace Go.Proofs.Ytgldhnjbodmbbaa.Qu
open Go.RowKit Go.Proofs.Ytgldhnjbodmbbaa.Mem Go.Proofs.Ytgldhnjbodmbbaa.Sl Go.Shelf
set_option linter.unusedVariables false

structure Ring (r : QR) (bh ah : Nat → Nat) : Prop where
  b : r.bh = fun v => (bh v : Int)
  a : r.ah = fun v => (ah v : Int)
theorem updI_cast (f : Nat → Nat) (a b : Nat) : updI (fun v => (f v : Int)) a (b : Int) = fun v => (updN f a b v : Int) := by
  funext v; unfold updI updN; dsimp only; split <;> rfl
theorem Ring.lnk {r : QR} {bh ah : Nat → Nat} (h : Ring r bh ah) (a b : Nat) : Ring (lnk r a b) (updN bh a b) (updN ah b a) :=
  ⟨by show updI r.bh a b = _; rw [h.b, updI_cast], by show updI r.ah b a = _; rw [h.a, updI_cast]⟩
def badI (N : Nat) (l : List Int) : Bool := l.any fun x => decide (x < 1) || decide ((N : Int) < x)
def bumpE (m : QM) (l : List Int) : Int := if badI m.N l = true then 2 else 0
def stK (m : QM) (vs : List Nat) (k : Nat) : Nat → Int := fun v => if (vs.take k).contains v = true then (m.N : Int) + (m.moved + 1) else m.st v
/-- Behind the moves of vs. -/
def mvM (m : QM) (vs : List Nat) : QM := { m with row := mvRow m.row vs, st := stK m vs vs.length, moved := m.moved + 1 }
def bumpM (m : QM) (l : List Int) : QM := if badI m.N l = true then m else if l = [] then m else mvM m (mvL m.row l)
theorem mvL_mem {row : List Nat} {l : List Int} {v : Nat} : v ∈ mvL row l ↔ v ∈ row ∧ (v : Int) ∈ l := by
  unfold mvL; rw [List.mem_filter]; simp
theorem mvL_nodup {row : List Nat} {l : List Int} (nd : row.Nodup) : (mvL row l).Nodup := nd.sublist List.filter_sublist
theorem mvM_w {m : QM} (h : QW m) (hm : m.moved ≤ 999999) {vs : List Nat} (hv : ∀ v, v ∈ vs → v ∈ m.row) (nd : vs.Nodup) : QW (mvM m vs) := by
  refine ⟨mvRow_nodup h.nd nd, fun v => (mvRow_mem hv v).trans (h.mem v), ?_, h.N, by show 0 ≤ m.moved + 1; have := h.m0; omega, by show m.moved + 1 ≤ _; omega, fun v hvN => ?_⟩
  · have hp : (mvRow m.row vs).Perm m.row := (List.perm_ext_iff_of_nodup (mvRow_nodup h.nd nd) h.nd).2 (mvRow_mem hv)
    exact hp.length_eq.trans h.len
  · have hs := h.st v hvN
    have h0 := h.m0
    show 0 ≤ stK m vs vs.length v ∧ stK m vs vs.length v ≤ (m.N : Int) + (m.moved + 1)
    unfold stK
    split
    · omega
    · omega
theorem stK_next {m : QM} {vs : List Nat} {k : Nat} (hk : k < vs.length) : stK m vs (k + 1) = updI (stK m vs k) vs[k] ((m.N : Int) + (m.moved + 1)) := by
  funext v
  unfold stK updI
  rw [List.take_succ_eq_append_getElem hk]
  generalize vs[k] = x
  generalize vs.take k = T
  by_cases e : v = x
  · subst e; rw [if_pos (by simp), if_pos rfl]
  · rw [if_neg e]
    have : ((T ++ [x]).contains v) = T.contains v := by
      rw [Bool.eq_iff_iff]; simp [e]
    rw [this]
theorem stK_zero (m : QM) (vs : List Nat) : stK m vs 0 = m.st := by funext v; unfold stK; simp
/-- The ring behind k moves. -/
structure MvI (m : QM) (r : QR) (vs : List Nat) (k : Nat) (r' : QR) : Prop where
  N : r'.N = r.N
  sa : r'.aA = r.aA ∧ r'.bA = r.bA ∧ r'.sA = r.sA
  mv : r'.moved = m.moved + 1
  st : r'.st = stK m vs k
  lk : ∃ bh ah, Ring r' bh ah ∧ Lk bh ah (cyc (mvRow m.row (vs.take k)))
/-- One move: what the links are asked, and what they leave. -/
theorem MvI.step {m : QM} {r r' : QR} {vs : List Nat} {k : Nat} (hw : QW m) (h : MvI m r vs k r') (hN : r.N = m.N) (hv : ∀ v, v ∈ vs → v ∈ m.row) (nd : vs.Nodup) (hk : k < vs.length) :
    ∃ a b t : Nat, a ≤ r.N ∧ b ≤ r.N ∧ t ≤ r.N ∧ r'.ah vs[k] = a ∧ r'.bh vs[k] = b ∧ (lnk r' a b).ah 0 = t ∧ vs[k] ≤ r.N ∧ 1 ≤ vs[k] ∧
      ∀ r5 : QR, r5.N = r'.N → r5.aA = r'.aA → r5.bA = r'.bA → r5.sA = r'.sA → r5.moved = r'.moved → r5.ah = (lnk (lnk (lnk r' a b) t vs[k]) vs[k] 0).ah → r5.bh = (lnk (lnk (lnk r' a b) t vs[k]) vs[k] 0).bh → r5.st = updI r'.st vs[k] ((m.N : Int) + (m.moved + 1)) → MvI m r vs (k + 1) r5 := by
  obtain ⟨bh, ah, hR, hL⟩ := h.lk
  have hvk := hv _ (List.getElem_mem hk)
  have hnk : vs[k] ∉ vs.take k := fun e => by
    obtain ⟨i, hi, e2⟩ := List.mem_take_iff_getElem.1 e
    have := (List.getElem_inj nd).1 e2
    omega
  obtain ⟨l1, l2, e1, e2⟩ := mvRow_next hw.nd hvk hnk
  have hvt : ∀ v, v ∈ vs.take k → v ∈ m.row := fun v hh => hv v (List.mem_of_mem_take hh)
  have ndt : (vs.take k).Nodup := nd.sublist (List.take_sublist _ _)
  have ndr := mvRow_nodup hw.nd ndt
  have hmem := mvRow_mem hvt
  rw [e1] at hL ndr
  have hz : 0 ∉ l1 ++ vs[k] :: l2 := fun e => by rw [← e1] at e; exact hw.zero ((hmem 0).1 e)
  have hle : ∀ i, (cyc (l1 ++ vs[k] :: l2)).getD i 0 ≤ r.N := fun i => by
    rw [hN]
    exact cyc_le (fun v hh => by rw [← e1] at hh; exact (hw.mem v).1 ((hmem v).1 hh)) i
  have hpos := (hw.mem _).1 hvk
  -- the neighbours of vs[k]
  have hi : l1.length < (l1 ++ vs[k] :: l2).length := by simp
  have hci : (cyc (l1 ++ vs[k] :: l2)).getD (l1.length + 1) 0 = vs[k] := by rw [cyc_mid hi]; simp
  have ha := (cyc_lk hL (i := l1.length) (by omega)).2
  have hb := (cyc_lk hL (i := l1.length + 1) (by omega)).1
  rw [hci] at ha hb
  have hu := unlink_lk ndr hz hL
  have ndr2 : (l1 ++ l2).Nodup := ndr.sublist (by simp)
  have hz2 : 0 ∉ l1 ++ l2 := fun e => hz (by simp only [List.mem_append, List.mem_cons] at *; rcases e with e | e; exact .inl e; exact .inr (.inr e))
  have hvn : vs[k] ∉ l1 ++ l2 := fun e => by
    have h1 := List.nodup_append.1 ndr
    rcases List.mem_append.1 e with e | e
    · exact h1.2.2 _ e _ (List.mem_cons_self ..) rfl
    · exact (List.nodup_cons.1 h1.2.1).1 e
  have ht := (cyc_lk hu (i := (l1 ++ l2).length) (Nat.le_refl _)).2
  rw [cyc_last] at ht
  have hap := append_lk ndr2 hz2 hvn (by omega) hu
  have hle2 : ∀ i, (cyc (l1 ++ l2)).getD i 0 ≤ r.N := fun i => by
    rw [hN]
    exact cyc_le (fun v hh => (hw.mem v).1 ((hmem v).1 (by rw [e1]; simp only [List.mem_append, List.mem_cons] at *; rcases hh with hh | hh; exact .inl hh; exact .inr (.inr hh)))) i
  refine ⟨ah vs[k], bh vs[k], updN ah (bh vs[k]) (ah vs[k]) 0, by rw [ha]; exact hle _, by rw [hb]; exact hle _, by rw [ht]; exact hle2 _, by rw [hR.a], by rw [hR.b], ?_, by omega, hpos.1, ?_⟩
  · have := (hR.lnk (ah vs[k]) (bh vs[k])).a
    rw [this]
  · intro r5 f1 f2 f3 f4 f5 f6 f7 f8
    have hR3 := (((hR.lnk (ah vs[k]) (bh vs[k])).lnk (updN ah (bh vs[k]) (ah vs[k]) 0) vs[k]).lnk vs[k] 0)
    refine ⟨f1.trans h.N, ⟨f2.trans h.sa.1, f3.trans h.sa.2.1, f4.trans h.sa.2.2⟩, f5.trans h.mv, by rw [f8, h.st, stK_next hk], _, _, ⟨f7.trans hR3.b, f6.trans hR3.a⟩, ?_⟩
    rw [List.take_succ_eq_append_getElem hk, e2]
    exact hap
theorem MvI.done {m : QM} {r r' r5 : QR} {vs : List Nat} (hw : QW m) (hm : m.moved ≤ 999999) (hN : r.N = m.N) (hv : ∀ v, v ∈ vs → v ∈ m.row) (nd : vs.Nodup) (h : MvI m r vs vs.length r') (f1 : r5.N = r'.N) (f2 : r5.moved = r'.moved) (f3 : r5.ah = r'.ah) (f4 : r5.bh = r'.bh) (f5 : r5.st = r'.st) (f6 : r5.mA = none) : Inv (mvM m vs) r5 := by
  obtain ⟨bh, ah, hR, hL⟩ := h.lk
  rw [List.take_length] at hL
  exact ⟨mvM_w hw hm hv nd, f1.trans (h.N.trans hN), f5.trans h.st, f2.trans h.mv, ⟨bh, ah, f4.trans hR.b, f3.trans hR.a, hL⟩, fun e => absurd f6 e⟩
end Go.Proofs.Ytgldhnjbodmbbaa.Qu
