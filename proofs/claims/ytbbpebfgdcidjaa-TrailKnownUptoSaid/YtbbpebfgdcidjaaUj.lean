/- The plain law of TrailPlays: the trail and the document's trail answer alike and stay alike. No program in sight. -/
import Derived.Test.YtbbpebfgdcidjaaUi
namespace Go.Proofs.Ytbbpebfgdcidjaa.Ta
open Go.RowKit Go.Proofs.Ytbbpebfgdcidjaa.Mem Go.Proofs.Ytbbpebfgdcidjaa.Sl Go.Proofs.Ytbbpebfgdcidjaa.Cl Go.Proofs.Ytbbpebfgdcidjaa.App
set_option linter.unusedVariables false

structure Rel (m : TM) (d : DM) : Prop where
  wf : WF m
  N : d.N = m.N
  lits : litsD d.row = m.lits
  top : d.top = m.starts.length
  head : d.head = m.head
  row : ∀ i (h : i < d.row.length), d.row[i].2.1 = (lev m.starts i : Int) ∧ d.row[i].2.2 = rsM m d.row[i].1 ∧ -1 ≤ d.row[i].2.2
section
variable {m : TM} {d : DM}
theorem Rel.len (r : Rel m d) : d.row.length = m.lits.length := by rw [← r.lits, litsD_len]
theorem Rel.at_ (r : Rel m d) {i : Nat} (h : i < d.row.length) : d.row[i].1 = m.lits[i]'(by rw [← r.len]; exact h) := by
  have e : (litsD d.row)[i]? = m.lits[i]? := by rw [r.lits]
  rw [List.getElem?_eq_getElem (by rw [litsD_len]; exact h), List.getElem?_eq_getElem (by rw [← r.len]; exact h)] at e
  have e := Option.some.inj e
  rw [← e]; unfold litsD; simp
theorem WF.once (h : WF m) : Once m := fun i j hi hj e => by
  have h1 := (h.w.sp i hi).1
  have h2 := (h.w.sp j hj).1
  rw [e] at h1
  omega
theorem WF.var (h : WF m) {i : Nat} (hi : i < m.lits.length) : 1 ≤ varI m.lits[i] ∧ varI m.lits[i] ≤ m.N ∧ -2147483648 ≤ m.lits[i] ∧ m.lits[i] ≤ 2147483647 := by
  have := h.ok.lb _ (List.getElem_mem hi); omega
theorem Rel.dok (r : Rel m d) : DOk d := by
  refine ⟨by rw [r.N]; exact r.wf.ok.N, by rw [r.len]; exact r.wf.ok.ln, by rw [r.top]; exact r.wf.ok.sn, by rw [r.head, r.len]; exact r.wf.ok.hd, fun e he => ?_⟩
  obtain ⟨i, hi, rfl⟩ := List.getElem_of_mem he
  have hi' : i < m.lits.length := by rw [← r.len]; exact hi
  have e1 := r.at_ hi
  have hv := r.wf.var hi'
  obtain ⟨h1, h2, h3⟩ := r.row i hi
  have hl := lev_le m.starts i
  have hs := r.wf.ok.sn
  rw [e1] at h2
  have hb := r.wf.ok.sp (varI m.lits[i]).toNat (by omega)
  rw [e1, h1, r.N]
  refine ⟨⟨hv.2.2.1, hv.2.2.2⟩, ⟨hv.1, hv.2.1⟩, ⟨by omega, by omega⟩, h3, ?_⟩
  rw [h2]; exact hb.2.2.2
theorem Rel.rs (r : Rel m d) : ∀ x, x ∈ m.lits → -1 ≤ rsM m x := fun x hx => by
  obtain ⟨i, hi, rfl⟩ := List.getElem_of_mem hx
  have hi' : i < d.row.length := by rw [r.len]; exact hi
  obtain ⟨_, h2, h3⟩ := r.row i hi'
  rw [h2, r.at_ hi'] at h3; exact h3
def VHit (m : TM) (d : DM) (v : Int) : Prop := ∃ i, ∃ h : i < m.lits.length, ∃ h' : i < d.row.length, varI m.lits[i] = v ∧ findN d.row v = i ∧ hasM m v = true ∧ spotM m v = ((i : Int) + 1, (lev m.starts i : Int), rsM m m.lits[i]) ∧ (m.sp v.toNat).1 = (i : Int) + 1
def VMiss (m : TM) (d : DM) (v : Int) : Prop := (∀ i (h : i < d.row.length), varI d.row[i].1 ≠ v) ∧ findN d.row v = d.row.length ∧ hasM m v = false ∧ (1 ≤ v → v ≤ m.N → (m.sp v.toNat).1 = 0)
theorem Rel.var (r : Rel m d) (v : Int) : VHit m d v ∨ VMiss m d v := by
  by_cases hv : ∃ i, ∃ h : i < m.lits.length, varI m.lits[i] = v
  · obtain ⟨i, hi, e⟩ := hv
    have hi' : i < d.row.length := by rw [r.len]; exact hi
    refine .inl ⟨i, hi, hi', e, ?_, ?_, ?_, ?_⟩
    · refine findN_hit hi' (by rw [r.at_ hi']; exact e) fun j hj hji h2 => ?_
      rw [r.at_ hj] at h2
      have := r.wf.once j i (by rw [← r.len]; exact hj) hi (by rw [h2, e])
      omega
    · rw [← e]; exact (has_at r.wf hi).1
    · rw [← e, (has_at r.wf hi).2]
      have h1 := r.wf.w.sp i hi
      show m.sp _ = (_, _, (m.sp _).2.2)
      rw [← h1.1, ← h1.2]
    · rw [← e]; exact (r.wf.w.sp i hi).1
  · have hno : ∀ i (h : i < m.lits.length), varI m.lits[i] ≠ v := fun i h e => hv ⟨i, h, e⟩
    have hz : 1 ≤ v → v ≤ m.N → (m.sp v.toNat).1 = 0 := fun h1 h2 => by
      rcases r.wf.w.un v.toNat with h | ⟨i, hi, h⟩
      · exact h
      · have := r.wf.var hi
        exact absurd (show varI m.lits[i] = v by omega) (hno i hi)
    have hno' : ∀ i (h : i < d.row.length), varI d.row[i].1 ≠ v := fun i h => by rw [r.at_ h]; exact hno i _
    refine .inr ⟨hno', findN_miss hno', ?_, hz⟩
    unfold hasM
    by_cases h1 : 1 ≤ v
    · by_cases h2 : v ≤ m.N
      · rw [hz h1 h2]; simp
      · simp [h2]
    · simp [h1]
theorem Rel.ofD (r : Rel m d) (v : Int) : ofD d.row v = (levelM m v, reasonM m v, placeM m v) := by
  rcases r.var v with ⟨i, hi, hi', e, h1, h2, h3, _⟩ | ⟨_, h1, h2, _⟩
  · obtain ⟨h4, h5, _⟩ := r.row i hi'
    rw [r.at_ hi'] at h5
    unfold Ta.ofD levelM reasonM placeM
    rw [h1, h2, h3, if_pos hi', if_pos rfl, if_pos rfl, if_pos rfl, List.getD_eq_getElem?_getD, List.getElem?_eq_getElem hi', Option.getD_some, h4, h5]
    simp
  · unfold Ta.ofD levelM reasonM placeM
    rw [h1, h2, if_neg (by omega)]; rfl
theorem Rel.may (r : Rel m d) (l x : Int) : (if l = 0 ∨ (m.N : Int) < varI l then 4 else if x < -1 then 160 else if 0 ≤ findR d.row (varI l) then 100 else 0) = mayE m l x := by
  unfold mayE
  by_cases h0 : l = 0 ∨ (m.N : Int) < varI l
  · rw [if_pos h0, if_pos h0]
  · rw [if_neg h0, if_neg h0]
    have hv1 : 1 ≤ varI l := varI_pos (fun e => h0 (.inl e))
    have hv2 : varI l ≤ m.N := by omega
    congr 1
    unfold findR
    rcases r.var (varI l) with ⟨i, hi, hi', e, h1, h2, h3, h4⟩ | ⟨_, h1, h2, h4⟩
    · rw [h1, h4, if_pos hi', if_pos (by omega), if_pos (by omega)]
    · rw [h1, h4 hv1 hv2, if_neg (Nat.lt_irrefl _), if_neg (by omega), if_neg (by omega)]
theorem Rel.mayD (r : Rel m d) (l : Int) : mayD d l = mayE m l (-1) := by
  rw [← r.may l (-1), if_neg (show ¬ (-1 : Int) < -1 by omega)]
  unfold Ta.mayD
  rw [r.N]
theorem Rel.rasgE (r : Rel m d) (l x : Int) : rasgE d l x = mayE m l x := by
  rw [← r.may l x]
  unfold Ta.rasgE Ta.mayD
  rw [r.N]
  by_cases h0 : l = 0 ∨ (m.N : Int) < varI l
  · rw [if_pos h0, if_pos h0, if_neg (fun h => h.1 rfl)]
  · rw [if_neg h0, if_neg h0]
    by_cases hx : x < -1
    · rw [if_pos hx, if_pos ⟨by split <;> decide, hx⟩]
    · rw [if_neg hx, if_neg (fun h => hx h.2)]
theorem negL_eq {l : Int} (h0 : -2147483648 < l) (h1 : l ≤ 2147483647) : negL l = -l := IntWalk.i32_in _ (by omega)
theorem valD_miss {l : Int} : ∀ row : List Ent, (∀ e, e ∈ row → varI e.1 ≠ varI l) → -2147483648 < l → l ≤ 2147483647 → valD row l = 0
  | [], _, _, _ => rfl
  | e :: row, h, h0, h1 => by
    have he := h e (List.mem_cons_self ..)
    unfold valD
    rw [if_neg (fun h2 => he (by rw [h2])), if_neg (fun h2 => he (by rw [h2.2, negL_eq h0 h1, varI_neg]))]
    exact valD_miss row (fun e he => h e (List.mem_cons_of_mem _ he)) h0 h1
theorem valD_hit {l : Int} (hl : l ≠ 0) (h0 : -2147483648 < l) (h1 : l ≤ 2147483647) : ∀ (row : List Ent) (i : Nat) (hi : i < row.length), varI row[i].1 = varI l → (∀ j (hj : j < row.length), j < i → varI row[j].1 ≠ varI l) → valD row l = if row[i].1 = l then 1 else -1
  | [], i, hi, _, _ => absurd hi (Nat.not_lt_zero _)
  | e :: row, 0, hi, he, _ => by
    have he : varI e.1 = varI l := he
    show (if e.1 = l then (1 : Int) else if l ≠ 0 ∧ e.1 = negL l then -1 else valD row l) = if e.1 = l then 1 else -1
    by_cases h2 : e.1 = l
    · rw [if_pos h2, if_pos h2]
    · rw [if_neg h2, if_neg h2, if_pos ⟨hl, by rw [negL_eq h0 h1]; unfold varI at he; split at he <;> split at he <;> omega⟩]
  | e :: row, i + 1, hi, he, hn => by
    have h3 : varI e.1 ≠ varI l := hn 0 (Nat.succ_pos _) (Nat.succ_pos _)
    show (if e.1 = l then (1 : Int) else if l ≠ 0 ∧ e.1 = negL l then -1 else valD row l) = _
    rw [if_neg (fun h2 => h3 (by rw [h2])), if_neg (fun h2 => h3 (by rw [h2.2, negL_eq h0 h1, varI_neg]))]
    exact valD_hit hl h0 h1 row i (by simpa using hi) he fun j hj hji => hn (j + 1) (by simpa using hj) (by omega)
theorem Rel.valD (r : Rel m d) {l : Int} (h0 : -2147483648 < l) (h1 : l ≤ 2147483647) : valD d.row l = valM m l := by
  unfold valM
  rcases r.var (varI l) with ⟨i, hi, hi', e, h2, h3, h4, _⟩ | ⟨hn, h2, h3, _⟩
  · have hv := r.wf.var hi
    have hl : l ≠ 0 := fun e0 => by rw [e0] at e; rw [e] at hv; exact absurd hv.1 (by decide)
    rw [if_pos h3, h4, valD_hit hl h0 h1 d.row i hi' (by rw [r.at_ hi']; exact e) (fun j hj hji h5 => by
      have := r.wf.once j i (by rw [← r.len]; exact hj) hi (by rw [← r.at_ hj, h5, e])
      omega), r.at_ hi']
    show _ = if m.lits.getD (((i : Int) + 1).toNat - 1) 0 = l then (1 : Int) else -1
    rw [show ((i : Int) + 1).toNat - 1 = i by omega, List.getD_eq_getElem?_getD, List.getElem?_eq_getElem hi, Option.getD_some]
  · rw [h3, valD_miss d.row (fun e he => by
      obtain ⟨i, hi, rfl⟩ := List.getElem_of_mem he
      exact hn i hi) h0 h1]
    rfl
theorem Rel.mdl (r : Rel m d) : mdlD d = modelV m ∧ decide (d.row.length = d.N) = decide (m.lits.length = m.N) := by
  unfold mdlD modelV
  rw [r.lits, r.N, r.len]; exact ⟨rfl, rfl⟩
theorem Rel.new {N : Nat} (h : N ≤ 1048576) : Rel (newM N) (newD N) := ⟨newM_wf h, rfl, rfl, rfl, rfl, fun i hi => absurd hi (Nat.not_lt_zero _)⟩
/-- A literal behind: of both. -/
theorem Rel.snoc (r : Rel m d) {m' : TM} {l x : Int} (wf : WF m') (e1 : m'.N = m.N) (e2 : m'.lits = m.lits ++ [l]) (e3 : m'.head = m.head) (e4 : m'.sp = upd m.sp (varI l).toNat (((m.lits.length + 1 : Nat) : Int), ((m'.starts.length : Nat) : Int), x))
    (e5 : ∀ i, i < m.lits.length → lev m'.starts i = lev m.starts i) (e6 : lev m'.starts m.lits.length = m'.starts.length) (hx : -1 ≤ x) {d' : DM} (f1 : d'.N = d.N) (f2 : d'.row = d.row ++ [(l, (m'.starts.length : Int), x)]) (f3 : d'.top = m'.starts.length) (f4 : d'.head = d.head) : Rel m' d' := by
  refine ⟨wf, by rw [f1, r.N, e1], by rw [f2, e2, ← r.lits]; unfold litsD; simp, f3, by rw [f4, r.head, e3], ?_⟩
  rw [f2]
  intro i hi
  have hne : ∀ j (hj : j < m.lits.length), (varI m.lits[j]).toNat ≠ (varI l).toNat := fun j hj e => by
    have h1 := wf.once j m.lits.length (by rw [e2]; simp; omega) (by rw [e2]; simp) (by simp only [e2, List.getElem_append_left hj]; simp [e])
    omega
  by_cases h : i < d.row.length
  · rw [List.getElem_append_left h]
    obtain ⟨h1, h2, h3⟩ := r.row i h
    have hm : i < m.lits.length := by rw [← r.len]; exact h
    refine ⟨by rw [h1, e5 i hm], ?_, h3⟩
    rw [h2]
    unfold rsM
    rw [e4, r.at_ h]
    unfold upd
    rw [if_neg (hne i hm)]
  · have hi2 : i = d.row.length := by simp at hi; omega
    subst hi2
    simp only [List.getElem_append_right (Nat.le_refl _), Nat.sub_self, List.getElem_cons_zero]
    refine ⟨by rw [r.len, e6], ?_, hx⟩
    unfold rsM
    rw [e4]; unfold upd; rw [if_pos rfl]
theorem Rel.dec (r : Rel m d) (hln : m.lits.length ≤ 999999) (hsn : m.starts.length ≤ 999999) {l : Int} (h0 : -2147483648 ≤ l) (h1 : l ≤ 2147483647) : Rel (decM m l) (rdecD d l) := by
  have hw := decM_wf r.wf hln hsn h0 h1
  unfold decM rdecD at *
  rw [r.mayD l]
  by_cases h : mayE m l (-1) = 0
  · rw [if_pos h] at hw ⊢
    rw [if_pos h]
    have hlev : (lvM m).starts.length = m.starts.length + 1 := by simp [lvM]
    refine r.snoc (x := -1) hw rfl rfl rfl (by show upd m.sp _ _ = upd m.sp _ _; rfl) (fun i hi => lev_snoc hi) ?_ (by omega) rfl (d' := { d with row := _, top := d.top + 1 }) ?_ ?_ rfl
    · show lev (m.starts ++ [m.lits.length]) m.lits.length = (m.starts ++ [m.lits.length]).length
      exact lev_all (fun s hs => by
        rcases List.mem_append.1 hs with hs | hs
        · exact r.wf.ok.st s hs
        · rw [List.mem_singleton] at hs; omega)
    · show d.row ++ [(l, (d.top : Int) + 1, -1)] = d.row ++ [(l, ((lvM m).starts.length : Int), -1)]
      rw [hlev, r.top]; rfl
    · show d.top + 1 = (lvM m).starts.length
      rw [hlev, r.top]
  · rw [if_neg h, if_neg h]; exact r
theorem Rel.asg (r : Rel m d) (hln : m.lits.length ≤ 999999) {l x : Int} (h0 : -2147483648 ≤ l) (h1 : l ≤ 2147483647) (h2 : x ≤ 9223372036854775807) : Rel (asgM m l x) (rasgD d l x) := by
  have hw := asgM_wf r.wf hln h0 h1 h2
  unfold asgM rasgD at *
  rw [r.rasgE l x]
  by_cases h : mayE m l x = 0
  · rw [if_pos h] at hw ⊢
    rw [if_pos h]
    obtain ⟨_, _, hx, _⟩ := mayE_zero h
    refine r.snoc (x := x) hw rfl rfl rfl rfl (fun i hi => rfl) (lev_all r.wf.ok.st) hx rfl (d' := { d with row := _ }) ?_ r.top rfl
    show d.row ++ [(l, (d.top : Int), x)] = _
    rw [r.top]; rfl
  · rw [if_neg h, if_neg h]; exact r
theorem nextM_wf (h : WF m) : WF (nextM m) := by
  unfold nextM
  split
  · exact h
  · exact ⟨⟨h.ok.N, h.ok.ln, h.ok.sn, h.ok.lb, h.ok.sp, h.ok.st, by show m.head + 1 ≤ m.lits.length; omega⟩, h.st, ⟨h.w.sp, h.w.un⟩, h.so⟩
theorem Rel.next (r : Rel m d) : Rel (nextM m) (rnextD d) ∧ rnextL d = nextL m ∧ decide (d.head < d.row.length) = decide (m.head < m.lits.length) := by
  have hw := nextM_wf r.wf
  have hln := r.len
  have hhd := r.head
  unfold nextM rnextD rnextL nextL at *
  rw [hhd, hln]
  by_cases h : m.lits.length ≤ m.head
  · rw [if_pos h, if_pos h, if_pos h, if_pos h]; exact ⟨r, rfl, rfl⟩
  · rw [if_neg h] at hw ⊢
    rw [if_neg h, if_neg h, if_neg h]
    have hl : m.head < d.row.length := by omega
    refine ⟨⟨hw, r.N, r.lits, r.top, rfl, r.row⟩, ?_, rfl⟩
    rw [List.getD_eq_getElem?_getD, List.getElem?_eq_getElem hl, Option.getD_some, r.at_ hl, List.getD_eq_getElem?_getD, List.getElem?_eq_getElem (by omega), Option.getD_some]
end
end Go.Proofs.Ytbbpebfgdcidjaa.Ta
