/- Trail: the plain laws of TrailBack: what puts keep, what Back leaves. No program in sight. -/
import Derived.Test.YtbbpebfgdcidjaaTg
import Derived.Test.YtbbpebfgdcidjaaTj
namespace Go.Proofs.Ytbbpebfgdcidjaa.Ta
open Go.RowKit Go.Proofs.Ytbbpebfgdcidjaa.Mem Go.Proofs.Ytbbpebfgdcidjaa.Sl Go.Proofs.Ytbbpebfgdcidjaa.Cl Go.Proofs.Ytbbpebfgdcidjaa.App
set_option linter.unusedVariables false

def lev (ss : List Nat) (i : Nat) : Nat := (ss.filter (fun s => decide (s ≤ i))).length
theorem lev_le (ss : List Nat) (i : Nat) : lev ss i ≤ ss.length := List.length_filter_le _ _
theorem lev_mono (ss : List Nat) {i j : Nat} (h : i ≤ j) : lev ss i ≤ lev ss j := by
  unfold lev
  induction ss with
  | nil => simp
  | cons s ss ih =>
    by_cases h1 : s ≤ i
    · have h2 : s ≤ j := by omega
      simpa [h1, h2] using ih
    · by_cases h2 : s ≤ j
      · simp [h1, h2]; omega
      · simpa [h1, h2] using ih
theorem lev_all {ss : List Nat} {i : Nat} (h : ∀ s, s ∈ ss → s ≤ i) : lev ss i = ss.length := by
  unfold lev
  rw [List.filter_eq_self.2]
  intro s hs; simpa using h s hs
theorem lev_snoc {ss : List Nat} {n i : Nat} (h : i < n) : lev (ss ++ [n]) i = lev ss i := by
  unfold lev
  rw [List.filter_append]
  have : ¬ n ≤ i := by omega
  simp [this]
/-- What is known of a variable is what the trail says. -/
structure W0 (m : TM) : Prop where
  sp : ∀ i (h : i < m.lits.length), (m.sp (varI m.lits[i]).toNat).1 = (i : Int) + 1 ∧ (m.sp (varI m.lits[i]).toNat).2.1 = (lev m.starts i : Int)
  un : ∀ v, (m.sp v).1 = 0 ∨ ∃ i, ∃ h : i < m.lits.length, (varI m.lits[i]).toNat = v
structure WF (m : TM) : Prop where
  ok : TOk m
  st : ∀ n, n ∈ m.starts → n < m.lits.length
  w : W0 m
  so : m.starts.Pairwise (· < ·)
theorem newM_wf {N : Nat} (h : N ≤ 1048576) : WF (newM N) := ⟨newM_ok h, fun n hn => (by cases hn), ⟨fun i hi => absurd hi (Nat.not_lt_zero _), fun v => .inl rfl⟩, .nil⟩
theorem lvM_so {m : TM} (h : WF m) : (lvM m).starts.Pairwise (· < ·) := by
  show (m.starts ++ [m.lits.length]).Pairwise (· < ·)
  rw [List.pairwise_append]
  exact ⟨h.so, List.pairwise_singleton _ _, fun a ha b hb => by rw [List.mem_singleton] at hb; subst hb; exact h.st a ha⟩
theorem lvM_w {m : TM} (h : W0 m) : W0 (lvM m) := ⟨fun i hi => ⟨(h.sp i hi).1, (h.sp i hi).2.trans (by show _ = ((lev (m.starts ++ [m.lits.length]) i : Nat) : Int); rw [lev_snoc (show i < m.lits.length from hi)])⟩, h.un⟩
theorem putM_wf {m : TM} (ok : TOk m) (w0 : W0 m) (hln : m.lits.length ≤ 999999) {l r : Int} (h0 : -2147483648 ≤ l) (h1 : l ≤ 2147483647) (hr : -9223372036854775808 ≤ r) (hr2 : r ≤ 9223372036854775807) (hv1 : 1 ≤ varI l) (hv2 : varI l ≤ m.N) (hz : (m.sp (varI l).toNat).1 ≤ 0) (hso : m.starts.Pairwise (· < ·)) : WF (putM m l r) := by
  have hst := ok.st
  have hne : ∀ i (h : i < m.lits.length), (varI m.lits[i]).toNat ≠ (varI l).toNat := fun i h e => by
    have := (w0.sp i h).1
    rw [e] at this; omega
  have hlev : lev m.starts m.lits.length = m.starts.length := lev_all hst
  refine ⟨putM_ok ok hln h0 h1 hr hr2 hv1 hv2, fun n hn => by have := hst n hn; simp [putM]; omega, ⟨fun i hi => ?_, fun v => ?_⟩, hso⟩
  · by_cases e : i < m.lits.length
    · have e1 : (putM m l r).lits[i] = m.lits[i] := by simp [putM, e]
      rw [e1]
      have := w0.sp i e
      simp only [putM, upd, if_neg (hne i e)]; exact this
    · have hi' : i = m.lits.length := by simp [putM] at hi; omega
      subst hi'
      have e1 : (putM m l r).lits[m.lits.length] = l := by simp [putM]
      rw [e1]
      simp only [putM, upd, if_true, hlev]
      exact ⟨by omega, trivial⟩
  · by_cases e : v = (varI l).toNat
    · exact .inr ⟨m.lits.length, by simp [putM], by simp [putM, e]⟩
    · rcases w0.un v with h | ⟨i, hi, h⟩
      · exact .inl (by simp only [putM, upd, if_neg e]; exact h)
      · exact .inr ⟨i, by simp [putM]; omega, by simp [putM, hi]; exact h⟩
theorem asgM_wf {m : TM} (h : WF m) (hln : m.lits.length ≤ 999999) {l r : Int} (h0 : -2147483648 ≤ l) (h1 : l ≤ 2147483647) (hr2 : r ≤ 9223372036854775807) : WF (asgM m l r) := by
  unfold asgM
  split
  · rename_i e
    obtain ⟨h2, h3, h4, h5⟩ := mayE_zero e
    exact putM_wf h.ok h.w hln h0 h1 (by omega) hr2 (varI_pos h2) h3 h5 h.so
  · exact h
theorem decM_wf {m : TM} (h : WF m) (hln : m.lits.length ≤ 999999) (hsn : m.starts.length ≤ 999999) {l : Int} (h0 : -2147483648 ≤ l) (h1 : l ≤ 2147483647) : WF (decM m l) := by
  unfold decM
  split
  · rename_i e
    obtain ⟨h2, h3, h4, h5⟩ := mayE_zero e
    exact putM_wf (lvM_ok h.ok hsn) (lvM_w h.w) hln h0 h1 (by omega) (by omega) (varI_pos h2) h3 h5 (lvM_so h)
  · exact h
def pickI (i n : Int) : Int := (i.tmod n + n).tmod n
def putS (m : TM) (s : St) : TM := if pickI s.k 2 = 0 then decM m s.l else asgM m s.l s.n
/-- Behind at most k calls, of N variables. -/
structure G (N k : Nat) (m : TM) : Prop where
  wf : WF m
  ln : m.lits.length ≤ k
  sn : m.starts.length ≤ k
  N : m.N = N
theorem putS_G {N k : Nat} {m : TM} (h : G N k m) (hk : k ≤ 999999) (s : St) (h0 : -2147483648 ≤ s.l) (h1 : s.l ≤ 2147483647) (h2 : s.n ≤ 9223372036854775807) : G N (k + 1) (putS m s) := by
  have hl := h.ln
  have hs := h.sn
  have hN := h.N
  unfold putS
  split
  · refine ⟨decM_wf h.wf (by omega) (by omega) h0 h1, ?_, ?_, ?_⟩ <;> unfold decM <;> split <;> (try simp [putM, lvM]) <;> omega
  · refine ⟨asgM_wf h.wf (by omega) h0 h1 h2, ?_, ?_, ?_⟩ <;> unfold asgM <;> split <;> (try simp [putM]) <;> omega
/-- Above the trail m1: as it is, or behind a decision. -/
def Inv (m1 m : TM) (first : Bool) : Prop := (m = m1 ∧ first = true) ∨ (first = false ∧ ∃ ls ss, m.lits = m1.lits ++ ls ∧ m.starts = m1.starts ++ m1.lits.length :: ss)
theorem inv_step {m1 m : TM} {first : Bool} (h : Inv m1 m first) (s : St) : Inv m1 (putS m (if first then { s with k := 0 } else s)) (decide ((putS m (if first then { s with k := 0 } else s)).starts.length = m1.starts.length)) := by
  rcases h with ⟨rfl, rfl⟩ | ⟨rfl, ls, ss, h1, h2⟩
  · rw [if_pos rfl]
    have e : putS m { s with k := 0 } = decM m s.l := if_pos (by show pickI 0 2 = 0; decide)
    rw [e]
    unfold decM
    split
    · refine .inr ⟨?_, [s.l], [], rfl, rfl⟩
      simp [putM, lvM]
    · exact .inl ⟨rfl, by simp⟩
  · simp only [Bool.false_eq_true, if_false]
    refine .inr ?_
    have hd : ∀ x : TM, (∃ ls ss, x.lits = m1.lits ++ ls ∧ x.starts = m1.starts ++ m1.lits.length :: ss) → decide (x.starts.length = m1.starts.length) = false := fun x ⟨ls, ss, a, b⟩ => by rw [b]; simp
    suffices hh : ∃ ls ss, (putS m s).lits = m1.lits ++ ls ∧ (putS m s).starts = m1.starts ++ m1.lits.length :: ss from ⟨hd _ hh, hh⟩
    unfold putS
    split
    · unfold decM
      split
      · refine ⟨ls ++ [s.l], ss ++ [m.lits.length], ?_, ?_⟩
        · show m.lits ++ [s.l] = _; rw [h1]; simp
        · show m.starts ++ [m.lits.length] = _; rw [h2]; simp
      · exact ⟨ls, ss, h1, h2⟩
    · unfold asgM
      split
      · refine ⟨ls ++ [s.l], ss, ?_, h2⟩
        show m.lits ++ [s.l] = _; rw [h1]; simp
      · exact ⟨ls, ss, h1, h2⟩
theorem has_at {m : TM} (h : WF m) {i : Nat} (hi : i < m.lits.length) : hasM m (varI m.lits[i]) = true ∧ spotM m (varI m.lits[i]) = m.sp (varI m.lits[i]).toNat := by
  have hb := h.ok.lb _ (List.getElem_mem hi)
  have hs := (h.w.sp i hi).1
  have e : hasM m (varI m.lits[i]) = true := by
    unfold hasM
    simp only [Bool.and_eq_true, decide_eq_true_eq, Bool.not_eq_true', decide_eq_false_iff_not]
    exact ⟨hb.2.1, hb.2.2, by omega⟩
  exact ⟨e, by unfold spotM; rw [if_pos e]⟩
theorem val_at {m : TM} (h : WF m) {i : Nat} (hi : i < m.lits.length) : valM m m.lits[i] = 1 := by
  obtain ⟨e1, e2⟩ := has_at h hi
  have hs := (h.w.sp i hi).1
  unfold valM
  rw [if_pos e1, e2, hs, if_pos]
  rw [show ((i : Int) + 1).toNat - 1 = i by omega]
  simp [hi]
theorem varI_neg (x : Int) : varI (-x) = varI x := by unfold varI; split <;> split <;> omega
theorem val_neg {m : TM} (h : WF m) {i : Nat} (hi : i < m.lits.length) : valM m (-m.lits[i]) = -1 := by
  obtain ⟨e1, e2⟩ := has_at h hi
  have hs := (h.w.sp i hi).1
  have hb := h.ok.lb _ (List.getElem_mem hi)
  unfold valM
  rw [varI_neg, if_pos e1, e2, hs, if_neg]
  rw [show ((i : Int) + 1).toNat - 1 = i by omega]
  intro e
  have e : m.lits[i] = -m.lits[i] := by simpa [hi] using e
  have h0 : m.lits[i] = 0 := by omega
  rw [h0] at hb
  exact absurd hb.2.1 (by decide)
theorem place_at {m : TM} (h : WF m) {i : Nat} (hi : i < m.lits.length) : placeM m (varI m.lits[i]) = i := by
  obtain ⟨e1, e2⟩ := has_at h hi
  have hs := (h.w.sp i hi).1
  unfold placeM
  rw [if_pos e1, e2, hs]; omega
theorem level_at {m : TM} (h : WF m) {i : Nat} (hi : i < m.lits.length) : levelM m (varI m.lits[i]) = (lev m.starts i : Int) := by
  obtain ⟨e1, e2⟩ := has_at h hi
  unfold levelM
  rw [if_pos e1, e2, (h.w.sp i hi).2]
theorem clr_mem {x : Int} : ∀ (ls : List Int) (sp : Nat → Int × Int × Int), x ∈ ls ∨ sp (varI x).toNat = (0, 0, 0) → clr sp ls (varI x).toNat = (0, 0, 0)
  | [], sp, h => by
    rcases h with h | h
    · cases h
    · exact h
  | y :: ls, sp, h => by
    show clr (upd sp (varI y).toNat (0, 0, 0)) ls (varI x).toNat = _
    refine clr_mem ls _ ?_
    rcases h with h | h
    · rcases List.mem_cons.1 h with rfl | h
      · exact .inr (by unfold upd; rw [if_pos rfl])
      · exact .inl h
    · refine .inr ?_
      unfold upd
      split
      · rfl
      · exact h
theorem clr_not {v : Nat} : ∀ (ls : List Int) (sp : Nat → Int × Int × Int), (∀ x, x ∈ ls → (varI x).toNat ≠ v) → clr sp ls v = sp v
  | [], sp, h => rfl
  | y :: ls, sp, h => by
    show clr (upd sp (varI y).toNat (0, 0, 0)) ls v = _
    rw [clr_not ls _ (fun x hx => h x (List.mem_cons_of_mem _ hx))]
    unfold upd
    rw [if_neg (fun e => h y (List.mem_cons_self ..) e.symm)]
theorem lev_take {ss : List Nat} {n i : Nat} (k : Nat) (h : ∀ s, s ∈ ss.drop k → i < s) : lev (ss.take k) i = lev ss i := by
  have e : ss = ss.take k ++ ss.drop k := (List.take_append_drop k ss).symm
  have e2 : lev ss i = lev (ss.take k) i + lev (ss.drop k) i := by
    conv => lhs; rw [e]
    unfold lev
    rw [List.filter_append, List.length_append]
  have e3 : lev (ss.drop k) i = 0 := by
    unfold lev
    rw [List.filter_eq_nil_iff.2]
    · rfl
    · intro s hs; have := h s hs; simp; omega
  omega
theorem backM_wf {m : TM} (h : WF m) (lv : Int) : WF (backM m lv) := by
  unfold backM
  split
  · rename_i hlv
    obtain ⟨k, rfl⟩ : ∃ k : Nat, lv = k := ⟨lv.toNat, by omega⟩
    rw [Int.toNat_natCast]
    have hk : k < m.starts.length := by omega
    obtain ⟨n, hn⟩ : ∃ n, m.starts.getD k 0 = n := ⟨_, rfl⟩
    have hn2 : m.starts[k] = n := by rw [← hn]; simp [hk]
    have hnl : n < m.lits.length := by rw [← hn2]; exact h.st _ (List.getElem_mem hk)
    have hdr : ∀ s, s ∈ m.starts.drop k → n ≤ s := fun s hs => by
      rw [List.drop_eq_getElem_cons hk, hn2] at hs
      rcases List.mem_cons.1 hs with rfl | hs
      · exact Nat.le_refl _
      · have hp := (List.pairwise_append.1 (show (m.starts.take k ++ m.starts.drop k).Pairwise (· < ·) by rw [List.take_append_drop]; exact h.so)).2.1
        rw [List.drop_eq_getElem_cons hk, hn2] at hp
        exact Nat.le_of_lt ((List.pairwise_cons.1 hp).1 s hs)
    have htk : ∀ s, s ∈ m.starts.take k → s < n := fun s hs => by
      have hp := (List.pairwise_append.1 (show (m.starts.take k ++ m.starts.drop k).Pairwise (· < ·) by rw [List.take_append_drop]; exact h.so)).2.2
      have := hp s hs (m.starts[k]) (by rw [List.drop_eq_getElem_cons hk]; exact List.mem_cons_self ..)
      omega
    have hb : backS m k = { m with lits := m.lits.take n, sp := clr m.sp (m.lits.drop n).reverse, starts := m.starts.take k, head := min m.head n } := by unfold backS; rw [hn]
    rw [hb]
    have hlen : (m.lits.take n).length = n := by rw [List.length_take]; omega
    have hsl : (m.starts.take k).length ≤ m.starts.length := by rw [List.length_take]; omega
    have hin : ∀ i (hi : i < m.lits.length), i < n → ∀ x, x ∈ (m.lits.drop n).reverse → (varI x).toNat ≠ (varI m.lits[i]).toNat := fun i hi hin x hx e => by
      rw [List.mem_reverse] at hx
      obtain ⟨j, hj, rfl⟩ := List.getElem_of_mem hx
      rw [List.length_drop] at hj
      have hj2 : n + j < m.lits.length := by omega
      rw [List.getElem_drop] at e
      have h1 := (h.w.sp i hi).1
      have h2 := (h.w.sp (n + j) hj2).1
      rw [e] at h2
      omega
    have hout : ∀ i (hi : i < m.lits.length), n ≤ i → m.lits[i] ∈ (m.lits.drop n).reverse := fun i hi hn => by
      rw [List.mem_reverse]
      have : m.lits[i] = (m.lits.drop n)[i - n]'(by rw [List.length_drop]; omega) := by
        rw [List.getElem_drop]; congr 1; omega
      rw [this]; exact List.getElem_mem _
    have hcl : ∀ v, clr m.sp (m.lits.drop n).reverse v = (0, 0, 0) ∨ (clr m.sp (m.lits.drop n).reverse v = m.sp v ∧ ((m.sp v).1 = 0 ∨ ∃ i, ∃ hi : i < n, (varI (m.lits[i]'(by omega))).toNat = v)) := fun v => by
      by_cases e : ∃ x, x ∈ (m.lits.drop n).reverse ∧ (varI x).toNat = v
      · obtain ⟨x, hx, rfl⟩ := e
        exact .inl (clr_mem _ _ (.inl hx))
      · refine .inr ⟨clr_not _ _ (fun x hx e2 => e ⟨x, hx, e2⟩), ?_⟩
        rcases h.w.un v with h0 | ⟨i, hi, h0⟩
        · exact .inl h0
        · by_cases hni : i < n
          · exact .inr ⟨i, hni, h0⟩
          · exact absurd ⟨_, hout i hi (by omega), h0⟩ e
    refine ⟨⟨h.ok.N, ?_, ?_, ?_, ?_, ?_, ?_⟩, ?_, ⟨?_, ?_⟩, ?_⟩
    · show (m.lits.take n).length ≤ _
      have := h.ok.ln; omega
    · show (m.starts.take k).length ≤ _
      have := h.ok.sn; omega
    · intro x hx; exact h.ok.lb x (List.mem_of_mem_take hx)
    · intro v hv
      show 0 ≤ (clr m.sp (m.lits.drop n).reverse v).1 ∧ (clr m.sp (m.lits.drop n).reverse v).1 ≤ ((m.lits.take n).length : Int) ∧ -9223372036854775808 ≤ (clr m.sp (m.lits.drop n).reverse v).2.2 ∧ (clr m.sp (m.lits.drop n).reverse v).2.2 ≤ 9223372036854775807
      rw [hlen]
      have hb := h.ok.sp v hv
      rcases hcl v with e | ⟨e, e2⟩
      · rw [e]; show (0 : Int) ≤ 0 ∧ (0 : Int) ≤ (n : Int) ∧ _; exact ⟨by omega, by omega, by decide, by decide⟩
      · rw [e]
        rcases e2 with e2 | ⟨i, hi, e2⟩
        · exact ⟨hb.1, by omega, hb.2.2⟩
        · have := (h.w.sp i (by omega)).1
          rw [e2] at this
          exact ⟨hb.1, by omega, hb.2.2⟩
    · intro s hs
      show s ≤ (m.lits.take n).length
      have := htk s hs; omega
    · show min m.head n ≤ (m.lits.take n).length
      omega
    · intro s hs
      show s < (m.lits.take n).length
      have := htk s hs; omega
    · intro i hi
      have hi : i < n := by have hi : i < (m.lits.take n).length := hi; omega
      have hil : i < m.lits.length := by omega
      show (clr m.sp (m.lits.drop n).reverse (varI ((m.lits.take n)[i]'(by omega))).toNat).1 = (i : Int) + 1 ∧ (clr m.sp (m.lits.drop n).reverse (varI ((m.lits.take n)[i]'(by omega))).toNat).2.1 = (lev (m.starts.take k) i : Int)
      rw [List.getElem_take, clr_not _ _ (fun x hx => hin i hil hi x hx), lev_take (n := n) k (fun s hs => by have := hdr s hs; omega)]
      exact h.w.sp i hil
    · intro v
      show (clr m.sp (m.lits.drop n).reverse v).1 = 0 ∨ ∃ i, ∃ h : i < (m.lits.take n).length, (varI (m.lits.take n)[i]).toNat = v
      rcases hcl v with e | ⟨e, e2⟩
      · exact .inl (by rw [e])
      · rcases e2 with e2 | ⟨i, hi, e2⟩
        · exact .inl (by rw [e]; exact e2)
        · exact .inr ⟨i, by omega, by rw [List.getElem_take]; exact e2⟩
    · exact List.Pairwise.sublist (List.take_sublist _ _) h.so
  · exact h
/-- Back at the level below: what is left and what goes. -/
theorem back_law {m1 m : TM} {first : Bool} (hi : Inv m1 m first) (h : WF m) :
    (backM m (m1.starts.length : Int)).lits = m1.lits ∧ (backM m (m1.starts.length : Int)).starts.length = m1.starts.length ∧ backE m (m1.starts.length : Int) = 0 ∧
    (goneM m (m1.starts.length : Int)) = (m.lits.drop m1.lits.length).reverse ∧ (m1.lits.length ≤ m.lits.length) ∧ ∀ x, x ∈ goneM m (m1.starts.length : Int) → valM (backM m (m1.starts.length : Int)) x = 0 ∧ levelM (backM m (m1.starts.length : Int)) (varI x) = -1 := by
  rcases hi with ⟨rfl, _⟩ | ⟨_, ls, ss, h1, h2⟩
  · have hn : ¬ (0 ≤ (m.starts.length : Int) ∧ (m.starts.length : Int) < m.starts.length) := by omega
    unfold backM goneM backE
    rw [if_neg hn, if_neg hn, if_neg (by omega)]
    exact ⟨rfl, rfl, rfl, by simp, Nat.le_refl _, fun x hx => by cases hx⟩
  · have hp : 0 ≤ (m1.starts.length : Int) ∧ (m1.starts.length : Int) < m.starts.length := by rw [h2]; simp; omega
    have hg : m.starts.getD m1.starts.length 0 = m1.lits.length := by rw [h2]; simp
    unfold backM goneM backE
    rw [if_pos hp, if_pos hp, if_neg (by omega), Int.toNat_natCast, hg]
    refine ⟨?_, ?_, rfl, rfl, by rw [h1]; simp, fun x hx => ?_⟩
    · show m.lits.take (m.starts.getD m1.starts.length 0) = _
      rw [hg, h1]; simp
    · show (m.starts.take m1.starts.length).length = _
      rw [h2]; simp
    · have hz : (backS m m1.starts.length).sp (varI x).toNat = (0, 0, 0) := by
        show clr m.sp (m.lits.drop (m.starts.getD m1.starts.length 0)).reverse _ = _
        rw [hg]
        exact clr_mem _ _ (.inl hx)
      have hh : hasM (backS m m1.starts.length) (varI x) = false := by
        unfold hasM
        rw [hz]; simp
      unfold valM levelM
      rw [hh]
      exact ⟨rfl, rfl⟩
end Go.Proofs.Ytbbpebfgdcidjaa.Ta
