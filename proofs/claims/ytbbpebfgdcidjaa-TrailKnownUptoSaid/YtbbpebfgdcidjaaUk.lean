/- The plain law of TrailPlays, Back and Move; a call of both. No program in sight. -/
import Derived.Test.YtbbpebfgdcidjaaUj
namespace Go.Proofs.Ytbbpebfgdcidjaa.Ta
open Go.RowKit Go.Proofs.Ytbbpebfgdcidjaa.Mem Go.Proofs.Ytbbpebfgdcidjaa.Sl Go.Proofs.Ytbbpebfgdcidjaa.Cl Go.Proofs.Ytbbpebfgdcidjaa.App
set_option linter.unusedVariables false

theorem lev_low {ss : List Nat} (hs : ss.Pairwise (· < ·)) {k i : Nat} (hk : k < ss.length) (hi : i < ss[k]) : lev (ss.take k) i = lev ss i ∧ lev ss i ≤ k := by
  have h1 : lev (ss.take k) i = lev ss i := lev_take (n := 0) k fun s h => by
    rw [List.drop_eq_getElem_cons hk] at h
    rcases List.mem_cons.1 h with rfl | h
    · exact hi
    · obtain ⟨j, hj, rfl⟩ := List.getElem_of_mem h
      rw [List.getElem_drop]
      have := (List.pairwise_iff_getElem.1 hs) k (k + 1 + j) hk (by rw [List.length_drop] at hj; omega) (by omega)
      omega
  have h2 := lev_le (ss.take k) i
  rw [List.length_take] at h2
  exact ⟨h1, by omega⟩
theorem lev_high {ss : List Nat} (hs : ss.Pairwise (· < ·)) {k i : Nat} (hk : k < ss.length) (hi : ss[k] ≤ i) : k < lev ss i := by
  have h1 : lev (ss.take (k + 1)) i = (ss.take (k + 1)).length := lev_all fun s h => by
    obtain ⟨j, hj, rfl⟩ := List.getElem_of_mem h
    rw [List.getElem_take]
    rw [List.length_take] at hj
    by_cases e : j = k
    · subst e; exact hi
    · have := (List.pairwise_iff_getElem.1 hs) j k (by omega) hk (by omega)
      omega
  have h2 : lev (ss.take (k + 1)) i ≤ lev ss i := ((List.take_sublist (k + 1) ss).filter _).length_le
  rw [List.length_take] at h1
  omega
theorem popN_eq (row : List Ent) (lv : Int) (k : Nat) : ∀ n, k ≤ n → (∀ i, k ≤ i → i < n → lv < (row.getD i (0, 0, 0)).2.1) → (∀ j, k = j + 1 → (row.getD j (0, 0, 0)).2.1 ≤ lv) → popN row lv n = k
  | 0, hk, _, _ => by show 0 = k; omega
  | n + 1, hk, h1, h2 => by
    unfold popN
    by_cases e : k = n + 1
    · have := h2 n e
      rw [if_neg (by omega)]; exact e.symm
    · rw [if_pos (h1 n (by omega) (by omega))]
      exact popN_eq row lv k n (by omega) (fun i hi hin => h1 i hi (by omega)) h2
section
variable {m : TM} {d : DM}
theorem Rel.level (r : Rel m d) {i : Nat} (h : i < d.row.length) : (d.row.getD i (0, 0, 0)).2.1 = (lev m.starts i : Int) := by
  rw [List.getD_eq_getElem?_getD, List.getElem?_eq_getElem h, Option.getD_some]; exact (r.row i h).1
theorem Rel.back (r : Rel m d) (lv : Int) : Rel (backM m lv) (rbackD d lv) ∧ rgone d lv = goneM m lv ∧ rbackE d lv = backE m lv := by
  have hE : rbackE d lv = backE m lv := by unfold rbackE backE; rw [r.top]
  have hw := backM_wf r.wf lv
  have hT := r.top
  by_cases h0 : lv < 0 ∨ (d.top : Int) < lv
  · unfold backM rbackD rgone goneM
    rw [if_pos h0, if_pos h0, if_neg (by omega), if_neg (by omega)]
    exact ⟨r, rfl, hE⟩
  · by_cases h1 : 0 ≤ lv ∧ lv < m.starts.length
    · obtain ⟨k, rfl⟩ : ∃ k : Nat, lv = k := ⟨lv.toNat, by omega⟩
      have hk : k < m.starts.length := by omega
      have hn := r.wf.st _ (List.getElem_mem hk)
      have hg : m.starts.getD k 0 = m.starts[k] := by rw [List.getD_eq_getElem?_getD, List.getElem?_eq_getElem hk]; rfl
      have hP : popN d.row (k : Int) d.row.length = m.starts[k] := by
        refine popN_eq _ _ _ _ (by rw [r.len]; omega) (fun i hi hil => ?_) (fun j hj => ?_)
        · rw [r.level hil]
          have := lev_high r.wf.so hk hi
          omega
        · rw [r.level (by rw [r.len]; omega)]
          have := (lev_low r.wf.so hk (i := j) (by omega)).2
          omega
      have hlen := r.len
      unfold backM at hw
      unfold backM rbackD rgone goneM
      rw [if_pos h1, Int.toNat_natCast] at hw ⊢
      rw [if_neg h0, if_neg h0, if_pos h1]
      rw [hP, hg]
      refine ⟨⟨hw, r.N, ?_, ?_, ?_, ?_⟩, ?_, hE⟩
      · show litsD (d.row.take m.starts[k]) = m.lits.take (m.starts.getD k 0)
        rw [hg, ← r.lits]; unfold litsD; rw [List.map_take]
      · show k = (m.starts.take k).length
        rw [List.length_take]; omega
      · show min d.head m.starts[k] = min m.head (m.starts.getD k 0)
        rw [hg, r.head]
      · intro i hi
        have hi : i < (d.row.take m.starts[k]).length := hi
        rw [List.length_take] at hi
        have hil : i < d.row.length := by omega
        have hil2 : i < m.lits.length := by omega
        have e1 : ∀ hh : i < (d.row.take m.starts[k]).length, (d.row.take m.starts[k])[i]'hh = d.row[i] := fun hh => List.getElem_take
        show ((d.row.take m.starts[k])[i]'_).2.1 = (lev (m.starts.take k) i : Int) ∧ ((d.row.take m.starts[k])[i]'_).2.2 = (clr m.sp (m.lits.drop (m.starts.getD k 0)).reverse (varI ((d.row.take m.starts[k])[i]'_).1).toNat).2.2 ∧ -1 ≤ ((d.row.take m.starts[k])[i]'_).2.2
        rw [e1, hg]
        obtain ⟨h2, h3, h4⟩ := r.row i hil
        refine ⟨by rw [h2, (lev_low r.wf.so hk (i := i) (by omega)).1], ?_, h4⟩
        rw [h3, r.at_ hil, clr_not _ _ (fun x hx e => ?_)]; · rfl
        rw [List.mem_reverse] at hx
        obtain ⟨j, hj, rfl⟩ := List.getElem_of_mem hx
        rw [List.length_drop] at hj
        rw [List.getElem_drop] at e
        have := r.wf.once _ _ (by omega) hil2 e
        omega
      · rw [← r.lits]; unfold litsD; rw [List.map_drop]
    · have hlv : lv = (d.top : Int) := by omega
      have hP : popN d.row lv d.row.length = d.row.length := by
        refine popN_eq _ _ _ _ (Nat.le_refl _) (fun i hi hil => by omega) (fun j hj => ?_)
        rw [r.level (by omega)]
        have := lev_le m.starts j
        omega
      have hhd := r.dok.hd
      unfold backM rbackD rgone goneM
      rw [if_neg h1, if_neg h0, if_neg h0, if_neg h1, hP, List.take_length, List.drop_length, hlv, Int.toNat_natCast, Nat.min_eq_left hhd]
      exact ⟨r, rfl, by rw [← hlv]; exact hE⟩
theorem movR_bd {tt : List Int} (ht : ∀ y, y ∈ tt → -9223372036854775808 ≤ y ∧ y ≤ 9223372036854775807) {x : Int} (h0 : -9223372036854775808 ≤ x) (h1 : x ≤ 9223372036854775807) : -9223372036854775808 ≤ movR tt x ∧ movR tt x ≤ 9223372036854775807 := by
  unfold movR
  split
  · rw [List.getD_eq_getElem?_getD]
    rcases h : tt[x.toNat]? with _ | y
    · exact ⟨by decide, by decide⟩
    · exact ht y (List.mem_of_getElem? h)
  · exact ⟨h0, h1⟩
theorem mvSp_12 (m : TM) (tt : List Int) (k v : Nat) : (mvSp m tt k v).1 = (m.sp v).1 ∧ (mvSp m tt k v).2.1 = (m.sp v).2.1 ∧ ((mvSp m tt k v).2.2 = (m.sp v).2.2 ∨ (mvSp m tt k v).2.2 = movR tt (m.sp v).2.2) := by
  unfold mvSp
  split
  · exact ⟨rfl, rfl, .inr rfl⟩
  · exact ⟨rfl, rfl, .inl rfl⟩
theorem mvK_wf (h : WF m) (tt : List Int) (ht : ∀ y, y ∈ tt → -9223372036854775808 ≤ y ∧ y ≤ 9223372036854775807) (k : Nat) : WF (mvK m tt k) := by
  refine ⟨⟨h.ok.N, h.ok.ln, h.ok.sn, h.ok.lb, fun v hv => ?_, h.ok.st, h.ok.hd⟩, h.st, ⟨fun i hi => ?_, fun v => ?_⟩, h.so⟩
  · have hb := h.ok.sp v hv
    obtain ⟨h1, h2, h3⟩ := mvSp_12 m tt k v
    show 0 ≤ (mvSp m tt k v).1 ∧ (mvSp m tt k v).1 ≤ m.lits.length ∧ -9223372036854775808 ≤ (mvSp m tt k v).2.2 ∧ (mvSp m tt k v).2.2 ≤ 9223372036854775807
    rw [h1]
    refine ⟨hb.1, hb.2.1, ?_⟩
    rcases h3 with h3 | h3
    · rw [h3]; exact hb.2.2
    · rw [h3]; exact movR_bd ht hb.2.2.1 hb.2.2.2
  · have hi : i < m.lits.length := hi
    obtain ⟨h1, h2, _⟩ := mvSp_12 m tt k (varI m.lits[i]).toNat
    show (mvSp m tt k (varI m.lits[i]).toNat).1 = _ ∧ (mvSp m tt k (varI m.lits[i]).toNat).2.1 = (lev m.starts i : Int)
    rw [h1, h2]; exact h.w.sp i hi
  · show (mvSp m tt k v).1 = 0 ∨ _
    rw [(mvSp_12 m tt k v).1]; exact h.w.un v
theorem Rel.bad (r : Rel m d) (tt : List Int) : d.row.any (fun e => badR tt e.2.2) = m.lits.any (fun l => badR tt (rsM m l)) := by
  rw [Bool.eq_iff_iff, List.any_eq_true, List.any_eq_true]
  constructor
  · rintro ⟨e, he, h⟩
    obtain ⟨i, hi, rfl⟩ := List.getElem_of_mem he
    refine ⟨d.row[i].1, by rw [r.at_ hi]; exact List.getElem_mem _, ?_⟩
    rw [← (r.row i hi).2.1]; exact h
  · rintro ⟨l, hl, h⟩
    obtain ⟨i, hi, rfl⟩ := List.getElem_of_mem hl
    have hi' : i < d.row.length := by rw [r.len]; exact hi
    refine ⟨d.row[i], List.getElem_mem _, ?_⟩
    rw [(r.row i hi').2.1, r.at_ hi']; exact h
theorem Rel.move (r : Rel m d) (tt : List Int) (ht : ∀ y, y ∈ tt → -9223372036854775808 ≤ y ∧ y ≤ 9223372036854775807) : Rel (mvM m tt) (rmoveD d tt) ∧ rmoveE d tt = mvE m tt := by
  unfold mvM rmoveD mvE rmoveE
  rw [r.bad tt]
  by_cases h : m.lits.any (fun l => badR tt (rsM m l)) = true
  · rw [if_pos h, if_pos h, if_pos h]; exact ⟨r, rfl⟩
  · rw [if_neg h, if_neg h, if_neg h]
    refine ⟨⟨mvK_wf r.wf tt ht _, r.N, ?_, r.top, r.head, ?_⟩, rfl⟩
    · show litsD (d.row.map (movE tt)) = m.lits
      rw [← r.lits]; unfold litsD; rw [List.map_map]; rfl
    · intro i hi
      have hi : i < (d.row.map (movE tt)).length := hi
      have hil : i < d.row.length := by simpa using hi
      have e1 : ∀ hh, (d.row.map (movE tt))[i]'hh = movE tt d.row[i] := fun hh => List.getElem_map _
      show ((d.row.map (movE tt))[i]'_).2.1 = (lev m.starts i : Int) ∧ ((d.row.map (movE tt))[i]'_).2.2 = (mvSp m tt m.lits.length (varI ((d.row.map (movE tt))[i]'_).1).toNat).2.2 ∧ -1 ≤ ((d.row.map (movE tt))[i]'_).2.2
      rw [e1]
      obtain ⟨h1, h2, h3⟩ := r.row i hil
      have hm : d.row[i].1 ∈ m.lits := by rw [r.at_ hil]; exact List.getElem_mem _
      have hg : badR tt (rsM m d.row[i].1) = false := by
        rcases hq : badR tt (rsM m d.row[i].1) with _ | _
        · rfl
        · exact absurd (List.any_eq_true.2 ⟨_, hm, hq⟩) h
      refine ⟨h1, ?_, ?_⟩
      · show movR tt d.row[i].2.2 = (mvSp m tt m.lits.length (varI d.row[i].1).toNat).2.2
        unfold mvSp
        rw [if_pos (by rw [List.take_length]; exact List.any_eq_true.2 ⟨_, hm, by simp⟩), h2]; rfl
      · show -1 ≤ movR tt d.row[i].2.2
        rw [h2] at h3 ⊢
        unfold movR
        unfold badR at hg
        simp only [Bool.and_eq_false_iff, Bool.or_eq_false_iff, decide_eq_false_iff_not] at hg
        split <;> omega
def stepM (m : TM) (s : St) : TM :=
  if pickI s.k 7 = 0 ∨ pickI s.k 7 = 1 then decM m s.l else if pickI s.k 7 = 2 ∨ pickI s.k 7 = 3 then asgM m s.l s.n else if pickI s.k 7 = 4 then backM m s.n else if pickI s.k 7 = 5 then nextM m else mvM m s.to
def stepD (d : DM) (s : St) : DM :=
  if pickI s.k 7 = 0 ∨ pickI s.k 7 = 1 then rdecD d s.l else if pickI s.k 7 = 2 ∨ pickI s.k 7 = 3 then rasgD d s.l s.n else if pickI s.k 7 = 4 then rbackD d s.n else if pickI s.k 7 = 5 then rnextD d else rmoveD d s.to
/-- Behind at most k calls: both. -/
structure RG (k : Nat) (m : TM) (d : DM) : Prop where
  rel : Rel m d
  ln : m.lits.length ≤ k
  sn : m.starts.length ≤ k
theorem RG.step {k : Nat} (r : RG k m d) (hk : k ≤ 999999) (s : St) (h0 : -2147483648 ≤ s.l) (h1 : s.l ≤ 2147483647) (h2 : s.n ≤ 9223372036854775807) (ht : ∀ y, y ∈ s.to → -9223372036854775808 ≤ y ∧ y ≤ 9223372036854775807) : RG (k + 1) (stepM m s) (stepD d s) := by
  have hl := r.ln
  have hs := r.sn
  unfold stepM stepD
  split
  · refine ⟨r.rel.dec (by omega) (by omega) h0 h1, ?_, ?_⟩ <;> unfold decM <;> split <;> (try simp [putM, lvM]) <;> omega
  · split
    · refine ⟨r.rel.asg (by omega) h0 h1 h2, ?_, ?_⟩ <;> unfold asgM <;> split <;> (try simp [putM]) <;> omega
    · split
      · refine ⟨(r.rel.back _).1, ?_, ?_⟩ <;> unfold backM <;> split <;> (try simp [backS]) <;> omega
      · split
        · refine ⟨r.rel.next.1, ?_, ?_⟩ <;> unfold nextM <;> split <;> (try simp) <;> omega
        · refine ⟨(r.rel.move _ ht).1, ?_, ?_⟩ <;> unfold mvM <;> split <;> (try simp [mvK]) <;> omega
end
end Go.Proofs.Ytbbpebfgdcidjaa.Ta
