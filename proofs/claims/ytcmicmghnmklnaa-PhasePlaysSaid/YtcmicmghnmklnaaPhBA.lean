/- The walk of plays of the statements of phase. Conditions: the memory, a call's literals (at most 4000, each in 32 bits). -/
import Derived.Test.YtcmicmghnmklnaaPhAA
import Derived.Test.YtcmicmghnmklnaaOps2
import Derived.Test.YtcmicmghnmklnaaAppB
import Derived.Test.YtcmicmghnmklnaaPhO
namespace Go.Proofs.Ytcmicmghnmklnaa.Ph
open Go.RowKit Go.Proofs.Ytcmicmghnmklnaa.Mem Go.Proofs.Ytcmicmghnmklnaa.Sl Go.Shelf Go.Proofs.Ytcmicmghnmklnaa.Ops
set_option linter.unusedVariables false

def LI (l : List Int) : List Value := l.map (Value.int .i32)
theorem wpAppL {w : World} {ops : Array Oper} {rest : List Oper} {o : Oper} {a : Act} {Q : Exit → Act → World → Prop} (hgd : o.guard = none) (s x : Operand)
    (ho : o.op = .call { callee := .builtin .append, args := #[s, x], argTypes := #[30, 30] })
    (base : Nat) (A : Option Addr) (n c : Nat) (xs : List Int) (hs : a.eval s = .slice A n c) (hown : App.Own w base 35 A n c (LI xs))
    (A2 : Option Addr) (m c2 : Nat) (news : List Int) (hx : a.eval x = .slice A2 m c2) (hl : m = news.length) (hr : RdV w A2 (LI news)) (hnil : A2 = none → c2 = 0)
    (h63 : n + m ≤ 4000000) (hbase : base ≤ w.heap.size) (r : Nat) (hrr : n + m = r)
    (h : ∀ A' c' w', App.Own w' base 35 A' r c' (LI (xs ++ news)) → Below base w w' → wpList Try.prog ops Q rest (a.put o.dst (.slice A' r c')) w') : wpList Try.prog ops Q (o :: rest) a w := by
  subst hrr
  obtain ⟨i0, hi⟩ := Option.isSome_iff_exists.1 (show (Try.prog.info? 35).isSome = true by kernel_rfl)
  have hz : (Try.prog.info? 35).map (fun i => (i.zero, i.size, i.bytes)) = some (some (.int .i32 0), 1, 4) := by kernel_rfl
  rw [hi] at hz
  injection hz with hz
  injection hz with hz0 hz
  injection hz with hz1 hz2
  refine App.wpList_app hgd s x 30 ho base 35 i0 (.int .i32 0) 4 Try.underlying30 hi hz0 hz1 hz2 rfl (.slice A n c) n (LI xs) hs hown.own A2 m c2 (LI news) hx (by simpa [LI] using hl) hr hnil (fun u hu => by obtain ⟨y, _, rfl⟩ := List.mem_map.1 hu; rfl) (by unfold maxLen; omega) (by omega) hbase (fun v' w' h1 h2 => ?_)
  obtain ⟨A', c', rfl, hO⟩ := App.Own.of h1
  exact h A' c' w' (by rw [LI, List.map_append]; exact hO) ((Mod.grown h2).below (fun i _ e => hown.block e) hbase)
theorem LitI.mod1 {S : Nat → Prop} {w w' : World} {B : Nat} {A : Option Addr} {L : List Int} {c : Nat} (h : LitI w B A L c) (hm : Mod S w w') (hS : ∀ i, A = some ⟨i, 0, none⟩ → ¬ S i) : LitI w' B A L c := by
  rcases h with h | ⟨g, h1, h2, h3⟩
  · exact .inl h
  · exact .inr ⟨g, h1, h2, h3.mod hm (hS g h1)⟩
theorem LitI.lt {w : World} {B : Nat} {A : Option Addr} {L : List Int} {c : Nat} (h : LitI w B A L c) {i : Nat} (e : A = some ⟨i, 0, none⟩) : i < w.heap.size := by
  rcases h with ⟨h, _⟩ | ⟨g, h1, h2, h3⟩
  · rw [h] at e; cases e
  · rw [h1] at e; cases e; exact h3.lt
theorem Rf.vlt {w : World} {B g : Nat} {m : PM} {r : RV} (h : Rf w B g m r) {i : Nat} (e : r.vA = some ⟨i, 0, none⟩) : B ≤ i ∧ i < w.heap.size := by
  rcases h.val with ⟨k, _⟩ | ⟨j, k1, k2, k3⟩
  · rw [k] at e; cases e
  · rw [k1] at e; cases e; exact ⟨k2, k3.lt⟩
theorem Rf.mod1 {S : Nat → Prop} {w w' : World} {B g : Nat} {m : PM} {r : RV} (h : Rf w B g m r) (hm : Mod S w w') (h1 : ¬ S g) (h2 : ∀ i, r.vA = some ⟨i, 0, none⟩ → ¬ S i) (h3 : ∀ i, r.tA = some ⟨i, 0, none⟩ → ¬ S i) (h4 : ∀ i, r.bA = some ⟨i, 0, none⟩ → ¬ S i) : Rf w' B g m r :=
  ⟨h.blk.mod hm h1, by
    rcases h.val with k | ⟨i, k1, k2, k3⟩
    · exact .inl k
    · exact .inr ⟨i, k1, k2, k3.mod hm (h2 i k1)⟩, h.t.mod1 hm h3, h.b.mod1 hm h4, h.bg, h.len, h.st0, h.st1, h.tu0, h.tf, h.bf, h.tv, h.bv, h.tm, h.bm⟩
/-- The value's row of the document's store is not the store's row. -/
def Dis (p : PV) (r : RV) : Prop := ∀ i, r.vA = some ⟨i, 0, none⟩ → i ≠ p.sb
section
variable {w w2 w3 w4 : World} {B g g' : Nat} {p p1 : PV} {r r1 : RV} {m m' : PM}
theorem val_blk (h : Rf w B g' m r) {i : Nat} (e : r.vA = some ⟨i, 0, none⟩) : ∃ cs, Blk w i 4 cs := by
  rcases h.val with ⟨k, _⟩ | ⟨j, k1, k2, k3⟩
  · rw [k] at e; cases e
  · rw [k1] at e; cases e; obtain ⟨rest, k3, _⟩ := k3; exact ⟨_, k3⟩
theorem sb_blk (h : Ph w B g p) : ∃ cs, Blk w p.sb 4 cs := by obtain ⟨rest, k3, _⟩ := h.row; exact ⟨_, k3⟩
theorem rf_after (h : Ph w B g p) (h' : Rf w B g' m r) (hd : Dis p r) (hm : Mod (Two g p.sb) w w3) : Rf w3 B g' m r := by
  obtain ⟨cs, hs⟩ := sb_blk h
  refine h'.mod hm ?_ ?_ ?_
  · rintro (e | e)
    · rw [e] at h'; exact h'.blk.ne_ h.blk (by decide) rfl
    · rw [e] at h'; exact h'.blk.ne_ hs (by decide) rfl
  · rintro i hi (e | e)
    · obtain ⟨cs', hb⟩ := val_blk h' hi
      rw [e] at hb; exact hb.ne_ h.blk (by decide) rfl
    · exact hd i hi e
  · rintro i cs' hb (e | e)
    · rw [e] at hb; exact hb.ne_ h.blk (by decide) rfl
    · rw [e] at hb; exact hb.ne_ hs (by decide) rfl
theorem ph_after (h : Ph w B g p) (h' : Rf w B g' m r) (hd : Dis p r) (hm : Mod (RS g' r.vA) w w3) : Ph w3 B g p := by
  obtain ⟨cs, hs⟩ := sb_blk h
  refine h.mod hm ?_ ?_ ?_
  · rintro (e | e)
    · rw [e] at h; exact h.blk.ne_ h'.blk (by decide) rfl
    · obtain ⟨cs', hb⟩ := val_blk h' e
      exact hb.ne_ h.blk (by decide) rfl
  · rintro (e | e)
    · rw [e] at hs; exact hs.ne_ h'.blk (by decide) rfl
    · exact hd _ e rfl
  · rintro i cs' hb (e | e)
    · rw [e] at hb; exact hb.ne_ h'.blk (by decide) rfl
    · obtain ⟨cs'', hb2⟩ := val_blk h' e
      exact hb.ne_ hb2 (by decide) rfl
/-- Both stores behind a call. -/
def PL (w2 w : World) (B g g' : Nat) (p : PV) (r : RV) (m' : PM) : Prop :=
  ∃ p' r', Ph w B g p' ∧ p'.abs = m' ∧ p'.sb = p.sb ∧ Rf w B g' m' r' ∧ r'.vA = r.vA ∧ Frs w2 r r' ∧ Mod (fun i => Two g p.sb i ∨ RS g' r.vA i) w2 w
theorem pl_of (hd : Dis p r) (hr3 : Rf w3 B g' m r) (h1 : Ph w3 B g p1) (a1 : p1.abs = m') (s1 : p1.sb = p.sb) (m1 : Mod (Two g p.sb) w2 w3) (h2 : Rf w4 B g' m' r1) (v2 : r1.vA = r.vA) (f2 : Frs w3 r r1) (m2 : Mod (RS g' r.vA) w3 w4) : PL w2 w4 B g g' p r m' :=
  ⟨p1, r1, ph_after h1 hr3 (fun i e => by rw [s1]; exact hd i e) m2, a1, s1, h2, v2, ⟨fun i e => (f2.1 i e).imp id fun h => Nat.le_trans m1.size h, fun i e => (f2.2 i e).imp id fun h => Nat.le_trans m1.size h⟩,
    (m1.mono fun i _ e => .inl e).then_ (m2.mono fun i _ e => .inr e)⟩
theorem pl_below (h : PL w2 w3 B g g' p r m') (hb : Below w3.heap.size w3 w4) : PL w2 w4 B g g' p r m' := by
  obtain ⟨p', r', h1, h2, h3, h4, h5, h6, h7⟩ := h
  exact ⟨p', r', h1.below hb, h2, h3, h4.below hb, h5, h6, h7.then_ (Mod.none_ hb _)⟩
/-- The stores behind plays. -/
def PF (w w' : World) (B g g' : Nat) (p : PV) (r : RV) (m' : PM) : Prop :=
  ∃ p' r', Ph w' B g p' ∧ p'.abs = m' ∧ p'.sb = p.sb ∧ Rf w' B g' m' r' ∧ r'.vA = r.vA ∧ Mod (fun i => Two g p.sb i ∨ RS g' r.vA i) w w'
theorem lt_all (h : Ph w B g p) (h' : Rf w B g' m r) {i : Nat} (hi : Two g p.sb i ∨ RS g' r.vA i) : B ≤ i ∧ i < w.heap.size := by
  rcases hi with (rfl | rfl) | (rfl | e)
  · exact ⟨h.bg, h.blk.lt⟩
  · exact ⟨h.bs, h.row.lt⟩
  · exact ⟨h'.bg, h'.blk.lt⟩
  · exact h'.vlt e
theorem pf_of {wr : World} {A : Option Addr} (h0 : Ph w B g p) (h0' : Rf w B g' m r) (hb : Below w.heap.size w w2) (h : PL w2 w4 B g g' p r m') (hA : ∀ i, A = some ⟨i, 0, none⟩ → w.heap.size ≤ i ∧ i < w2.heap.size)
    (hT : ∀ i cs, A = some ⟨i, 0, none⟩ → ¬ Blk w4 i 67 cs) (hm : Mod (fun i => A = some ⟨i, 0, none⟩) w4 wr) : PF w wr B g g' p r m' := by
  obtain ⟨p', r', h1, h2, h3, h4, h5, h6, h7⟩ := h
  have hno : ∀ i, (Two g p.sb i ∨ RS g' r.vA i) → ¬ A = some ⟨i, 0, none⟩ := fun i hi e => by
    have := (lt_all h0 h0' hi).2
    have := (hA i e).1
    omega
  refine ⟨p', r', h1.mod hm (hno g (.inl (.inl rfl))) (by rw [h3]; exact hno p.sb (.inl (.inr rfl))) (fun i cs hb e => hT i cs e hb), h2, h3, h4.mod1 hm (hno g' (.inr (.inl rfl))) (fun i e => hno i (.inr (.inr (by rw [← h5]; exact e)))) ?_ ?_, h5, ?_⟩
  · intro i e e2
    have h8 := hA i e2
    rcases h6.1 i e with h9 | h9
    · have := h0'.t.lt h9; omega
    · omega
  · intro i e e2
    have h8 := hA i e2
    rcases h6.2 i e with h9 | h9
    · have := h0'.b.lt h9; omega
    · omega
  · refine ((Mod.none_ hb _).then_ h7).trans hm fun i hi e => ?_
    have := (hA i e).1
    omega
end
def playM (m : PM) (o : Op3) : PM :=
  if o.kind % 9 = 0 then m else if o.kind % 9 = 1 ∨ o.kind % 9 = 2 then saveM m o.l else if o.kind % 9 = 3 ∨ o.kind % 9 = 4 then reachM m o.l else if o.kind % 9 = 5 then turnM m else drawM m
end Go.Proofs.Ytcmicmghnmklnaa.Ph
