/- The plain law of ExtendGood: clauses taken off with good witnesses; a stack of the call's own in memory. -/
import Derived.Test.YtfpohiflpemkjaaGo
import Derived.Test.YtfpohiflpemkjaaKi
namespace Go.Proofs.Ytfpohiflpemkjaa.Ex
open Go.RowKit Go.Proofs.Ytfpohiflpemkjaa.Mem Go.Proofs.Ytfpohiflpemkjaa.Sl Go.Proofs.Ytfpohiflpemkjaa.Cl Go.Proofs.Ytfpohiflpemkjaa.App Go.Proofs.Ytfpohiflpemkjaa.Mo Go.Shelf
set_option linter.unusedVariables false

structure GI (F : List CV) (vars : Nat) (L : List CV) (St : List WV) : Prop where
  ok : okB vars St = true
  sub : ∀ x, x ∈ L → x ∈ F
  a : ∀ m : List Bool, m.length = vars → holdsB m L = true → holdsB (extendB m St) F = true
  b : ∀ m : List Bool, m.length = vars → holdsB m F = true → extendB m St = m
theorem GI.start (F : List CV) (vars : Nat) : GI F vars F [] := ⟨rfl, fun _ h => h, fun _ _ h => h, fun _ _ _ => rfl⟩
theorem holds_mem {m : List Bool} {L : List CV} (h : holdsB m L = true) {x : CV} (hx : x ∈ L) : valB m x.l = true := by
  unfold holdsB at h; rw [List.all_eq_true] at h; exact h x hx
theorem holds_of {m : List Bool} {L : List CV} (h : ∀ x, x ∈ L → valB m x.l = true) : holdsB m L = true := by
  unfold holdsB; rw [List.all_eq_true]; exact h
theorem GI.step {F : List CV} {vars : Nat} {L : List CV} {St : List WV} (h : GI F vars L St) (hF : rightsB vars F = true) (at_ : Nat) (hat : at_ < L.length) (l : CV) (hl : rightB vars l.l = true)
    (hg : ∀ k, k < 2 ^ vars → condG (L.take at_ ++ L.drop (at_ + 1)) ⟨l, L[at_]'hat⟩ (modelB vars k)) : GI F vars (L.take at_ ++ L.drop (at_ + 1)) (St ++ [⟨l, L[at_]'hat⟩]) := by
  have hmem : ∀ x, x ∈ L → x ∈ L.take at_ ++ L.drop (at_ + 1) ∨ x = L[at_]'hat := fun x hx => by
    have e : L = L.take at_ ++ (L[at_]'hat :: L.drop (at_ + 1)) := by rw [← List.drop_eq_getElem_cons hat, List.take_append_drop]
    rw [e] at hx
    rcases List.mem_append.1 hx with hx | hx
    · exact .inl (List.mem_append_left _ hx)
    · rcases List.mem_cons.1 hx with hx | hx
      · exact .inr hx
      · exact .inl (List.mem_append_right _ hx)
  have hsub : ∀ x, x ∈ L.take at_ ++ L.drop (at_ + 1) → x ∈ L := fun x hx => by
    rcases List.mem_append.1 hx with hx | hx
    · exact List.mem_of_mem_take hx
    · exact List.mem_of_mem_drop hx
  have hc : L[at_]'hat ∈ F := h.sub _ (List.getElem_mem hat)
  have hcr : rightB vars (L[at_]'hat).l = true := by
    unfold rightsB at hF; rw [List.all_eq_true] at hF; exact hF _ hc
  have hext : ∀ m, extendB m (St ++ [⟨l, L[at_]'hat⟩]) = extendB (stepB m ⟨l, L[at_]'hat⟩) St := fun m => by unfold extendB; rw [List.foldr_append]; rfl
  refine ⟨?_, fun x hx => h.sub x (hsub x hx), fun m hm hh => ?_, fun m hm hh => ?_⟩
  · have h0 := h.ok
    unfold okB at h0 ⊢
    rw [List.all_append, h0]
    simp [okW, hl, hcr]
  · rw [hext]
    refine h.a _ (by rw [stepB_length]; exact hm) (holds_of fun x hx => ?_)
    unfold stepB
    by_cases hv : valB m (L[at_]'hat).l = true
    · rw [if_pos hv]
      rcases hmem x hx with h1 | rfl
      · exact holds_mem hh h1
      · exact hv
    · rw [if_neg hv]
      obtain ⟨k, hk, hmk⟩ := modelB_all m
      rw [hm] at hk hmk
      have hg' := hg k hk
      rw [hmk] at hg'
      obtain ⟨g1, g2⟩ := hg' hh (by simpa using hv)
      rcases hmem x hx with h1 | rfl
      · exact holds_mem g1 h1
      · exact g2
  · rw [hext]
    have : stepB m ⟨l, L[at_]'hat⟩ = m := by unfold stepB; rw [if_pos (holds_mem hh hc)]
    rw [this]
    exact h.b m hm hh

def flatW (st : List WV) : List Value := st.flatMap (fun x => [x.l.v, x.c.v])
theorem flatW_length (st : List WV) : (flatW st).length = st.length * 2 := by
  induction st with
  | nil => rfl
  | cons x st ih => simp only [flatW, List.flatMap_cons, List.length_append, List.length_cons, List.length_nil] at ih ⊢; omega
theorem flatW_at : ∀ (st : List WV) (i : Nat) (x : WV), st[i]? = some x → (flatW st)[i * 2]? = some x.l.v ∧ (flatW st)[i * 2 + 1]? = some x.c.v := by
  intro st
  induction st with
  | nil => intro i x h; simp at h
  | cons y st ih =>
    intro i x h
    cases i with
    | zero => simp at h; subst h; simp [flatW]
    | succ i =>
      have := ih i x (by simpa using h)
      rw [show (i + 1) * 2 = i * 2 + 1 + 1 by omega]
      simpa [flatW] using this
theorem ownsRow_mod {S : Nat → Prop} {w w' : World} {base : Nat} {t : TypeId} {k n : Nat} {v : Value} {xs : List Value} (h : w.ownsRow base t k v n xs) (hm : Mod S w w') (hS : ∀ i, base ≤ i → v.ownBlock = some i → ¬ S i) : w'.ownsRow base t k v n xs := by
  obtain ⟨h1, h2 | ⟨g, cap, cur, rfl, h3, h4, h5⟩⟩ := h
  · exact ⟨h1, .inl h2⟩
  · refine ⟨h1, .inr ⟨g, cap, cur, rfl, h3, ?_, h5⟩⟩
    exact (hm.block g (Array.getElem?_eq_some_iff.1 h4).1 (hS g h3 rfl)).trans h4
theorem ownsRow_below {w w' : World} {base : Nat} {t : TypeId} {k n : Nat} {v : Value} {xs : List Value} (h : w.ownsRow base t k v n xs) (hb : Below w.heap.size w w') : w'.ownsRow base t k v n xs := ownsRow_mod h (Mod.none_ hb (fun _ => False)) (fun _ _ _ => id)
theorem wt_own {w : World} {base n : Nat} {A : Option Addr} {c : Nat} {st : List WV} {t : TypeId} (h : w.ownsRow base t 2 (.slice A n c) n (flatW st)) (hm : n ≤ 9223372036854775807) (ha : ∀ x, x ∈ st → ClOk w.heap.size w x.l ∧ ClOk w.heap.size w x.c) : WtOk w.heap.size w A n st := by
  obtain ⟨h1, h2⟩ := h
  have hn : n = st.length := by rw [flatW_length] at h1; omega
  refine ⟨hn, hm, fun hp => ?_, ha⟩
  rcases h2 with ⟨_, h⟩ | ⟨g, cap, cur, e, h3, h4, h5, h6, h7, h8⟩
  · omega
  · cases e
    refine ⟨g, 0, rfl, (Array.getElem?_eq_some_iff.1 h4).1, fun i x hi => ?_⟩
    have hlt : i < st.length := (List.getElem?_eq_some_iff.1 hi).1
    obtain ⟨f1, f2⟩ := flatW_at st i x hi
    rw [← h8] at f1 f2
    rw [List.getElem?_take] at f1 f2
    rw [if_pos (by omega)] at f1 f2
    rw [Nat.zero_add]
    constructor
    · rw [cell_of_row w g (i * 2) cur t (0, 0) h4]; simpa using f1
    · rw [cell_of_row w g (i * 2 + 1) cur t (0, 0) h4]; simpa using f2
theorem flatW_snoc (st : List WV) (x : WV) : flatW (st ++ [x]) = flatW st ++ [x.l.v, x.c.v] := by unfold flatW; rw [List.flatMap_append]; rfl
theorem own_slice {w : World} {base : Nat} {t : TypeId} {k n : Nat} {v : Value} {xs : List Value} (h : w.ownsRow base t k v (n + 1) xs) : ∃ A c, v = .slice A (n + 1) c := by
  rcases h.2 with ⟨_, h2⟩ | ⟨g, cap, cur, rfl, _⟩
  · cases h2
  · exact ⟨_, _, rfl⟩
theorem own_apart {w : World} {base base' n c k m : Nat} {t t' : TypeId} {A : Option Addr} {xs ys : List Value} {v : Value} (h : App.Own w base t A n c xs) (h' : w.ownsRow base' t' k v m ys) (ht : t ≠ t') : ∀ i, A = some ⟨i, 0, none⟩ → ¬ (some i = v.ownBlock) := by
  intro i hi e
  obtain ⟨_, ⟨rfl, _⟩ | ⟨g, rfl, _, _, hrow⟩⟩ := h
  · cases hi
  · cases hi
    rcases h'.2 with ⟨rfl, _⟩ | ⟨g', cap, cur, rfl, _, h4, _⟩
    · cases e
    · cases e
      exact hrow.ne_blk (t' := t') (cs := cur) h4 ht rfl
theorem own_block {w : World} {base : Nat} {t : TypeId} {k n : Nat} {v : Value} {xs : List Value} (h : w.ownsRow base t k v n xs) {i : Nat} (hi : some i = v.ownBlock) : base ≤ i := by
  rcases h.2 with ⟨rfl, _⟩ | ⟨g, cap, cur, rfl, h3, _⟩
  · cases hi
  · cases hi; exact h3
theorem clsOwn {w : World} {base n : Nat} {A : Option Addr} {c : Nat} {cs : List CV} {t : TypeId} (h : App.Own w base t A n c (cs.map CV.v)) (hm : n ≤ 9223372036854775807) (ha : ∀ x, x ∈ cs → ClOk w.heap.size w x) : ClsOk w.heap.size w A n cs :=
  ⟨by simpa using h.1, hm, RdB.of h.rd, ha⟩
end Go.Proofs.Ytfpohiflpemkjaa.Ex
