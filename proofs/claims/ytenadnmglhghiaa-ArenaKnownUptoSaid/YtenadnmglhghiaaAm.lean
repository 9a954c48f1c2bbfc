/- An arena: Collect. Conditions: the memory. -/
import Derived.Test.YtenadnmglhghiaaAl
namespace Go.Proofs.Ytenadnmglhghiaa.Ar
open Go.RowKit Go.Proofs.Ytenadnmglhghiaa.Mem Go.Proofs.Ytenadnmglhghiaa.Sl Go.Shelf
open Go.Proofs.Ytenadnmglhghiaa.FnL (enc_at below_then)
set_option linter.unusedVariables false

/-- Where Collect stands: k are put together, of the first i. -/
structure CoR (w wr : World) (base : Nat) (q : AAd) (lim : Int) (its : List Itm) (a : Nat) (RA : Option Addr) (rc b2 k i : Nat) (L : List Int) (MA : Option Addr) (mc : Nat) : Prop where
  blk : Blk wr q.g 69 #[.int .i64 lim, .slice (some ⟨a, 0, none⟩) (sumw its) q.c, .map (some q.b), .int .i64 (waste its : Nat)]
  row : Row wr a 71 (UZ L) q.c
  mp : MapK wr b2 k (refs (keep (its.take i)))
  rr : App.Own wr w.heap.size 32 RA (refs its).length rc ((NZ (refs its)).map (Value.int .i64))
  mv : SRow wr w.heap.size 42 2 MA k mc (mvC ((refs its).take k) (refs (keep (its.take i))))
  hi : i ≤ its.length
  hk : refs (its.take i) = (refs its).take k
  kl : k ≤ (refs its).length
  ll : L.length = sumw its
  l1 : L.take (sumw (keep (its.take i))) = flat (keep (its.take i))
  l2 : L.drop (sumw (its.take i)) = (flat its).drop (sumw (its.take i))
  m : Mod (fun j => j = a) w wr
  b2 : w.heap.size ≤ b2
/-- The words that Collect copies. -/
theorem copy_plain {its : List Itm} (h : ∀ x, x ∈ its → IOk x) {i j : Nat} (hij : i ≤ j) (hj : j < its.length) (hd : (its[j]).dead = false) (hkeep : keep (its.take j) = keep (its.take i)) {L : List Int} (ll : L.length = sumw its)
    (l1 : L.take (sumw (keep (its.take i))) = flat (keep (its.take i))) (l2 : L.drop (sumw (its.take i)) = (flat its).drop (sumw (its.take i))) :
    (∀ m v, m < its[j].wd → (enc its[j])[m]? = some v → L[sumw (its.take j) + m]? = some v) ∧ sumw (keep (its.take i)) ≤ sumw (its.take j) ∧ sumw (its.take j) + its[j].wd ≤ sumw its ∧
    (splice L (sumw (keep (its.take i))) ((enc its[j]).take (4 + its[j].l.length))).length = sumw its ∧
    (splice L (sumw (keep (its.take i))) ((enc its[j]).take (4 + its[j].l.length))).take (sumw (keep (its.take (j + 1)))) = flat (keep (its.take (j + 1))) ∧
    (splice L (sumw (keep (its.take i))) ((enc its[j]).take (4 + its[j].l.length))).drop (sumw (its.take (j + 1))) = (flat its).drop (sumw (its.take (j + 1))) ∧
    sumw (keep (its.take (j + 1))) = sumw (keep (its.take i)) + (4 + its[j].l.length) ∧ refs (keep (its.take (j + 1))) = refs (keep (its.take i)) ++ [sumw (keep (its.take i))] := by
  have hok := h its[j] (List.getElem_mem hj)
  have hw := hok.wd
  have he := enc_len hok
  have hmono := take_mono (its := its) hij
  have hnx := take_next hj
  have hle := take_le h (j + 1)
  have hks : sumw (keep (its.take i)) ≤ sumw (its.take j) := by
    have := keep_sumw (its := its.take i) fun x hx => h x (List.mem_of_mem_take hx)
    omega
  have hel : ((enc its[j]).take (4 + its[j].l.length)).length = 4 + its[j].l.length := by rw [List.length_take]; omega
  have hkt : keep (its.take (j + 1)) = keep (its.take i) ++ [its[j].tight] := by
    rw [List.take_succ_eq_append_getElem hj, keep_append, keep_one, hd, hkeep]; rfl
  have hsk : sumw (keep (its.take (j + 1))) = sumw (keep (its.take i)) + (4 + its[j].l.length) := by rw [hkt, sumw_append, sumw_one]; rfl
  have hspl := length_splice L (sumw (keep (its.take i))) ((enc its[j]).take (4 + its[j].l.length)) (by omega)
  refine ⟨fun m v hm hv => ?_, hks, by omega, by rw [hspl, ll], ?_, ?_, hsk, ?_⟩
  · have h1 := flat_at h hj hm
    rw [hv] at h1
    have h2 : (L.drop (sumw (its.take i)))[sumw (its.take j) - sumw (its.take i) + m]? = ((flat its).drop (sumw (its.take i)))[sumw (its.take j) - sumw (its.take i) + m]? := by rw [l2]
    rw [List.getElem?_drop, List.getElem?_drop, show sumw (its.take i) + (sumw (its.take j) - sumw (its.take i) + m) = sumw (its.take j) + m by omega] at h2
    rw [h2, h1]
  · rw [hsk, hkt, flat_append, flat_one, enc_tight hd]
    unfold splice
    rw [l1, ← List.append_assoc, List.take_append_of_le_length (by
      rw [List.length_append, hel, flat_len (keep_ok fun x hx => h x (List.mem_of_mem_take hx))]; exact Nat.le_refl _), List.take_of_length_le (by
      rw [List.length_append, hel, flat_len (keep_ok fun x hx => h x (List.mem_of_mem_take hx))]; exact Nat.le_refl _)]
  · have h2 : (L.drop (sumw (its.take i))).drop (sumw (its.take (j + 1)) - sumw (its.take i)) = ((flat its).drop (sumw (its.take i))).drop (sumw (its.take (j + 1)) - sumw (its.take i)) := by rw [l2]
    rw [List.drop_drop, List.drop_drop, show sumw (its.take i) + (sumw (its.take (j + 1)) - sumw (its.take i)) = sumw (its.take (j + 1)) by omega] at h2
    rw [← h2]
    unfold splice
    have hl0 : (L.take (sumw (keep (its.take i)))).length = sumw (keep (its.take i)) := by rw [List.length_take]; omega
    rw [← List.append_assoc, List.drop_append, List.drop_eq_nil_of_le (by rw [List.length_append, hl0, hel]; omega), List.nil_append, List.length_append, hl0, hel, List.drop_drop]
    congr 1
    omega
  · rw [hkt, refs_snoc]
    have : its[j].tight.dead = false := hd
    rw [this]; rfl
theorem Row.copied {w : World} {a cap o : Nat} {t : TypeId} {xs rest cs : List Value} (hb : Blk w a t (xs ++ rest).toArray) (hc : cap = xs.length + rest.length) (h : o + cs.length ≤ xs.length) :
    Row (w.setRow a ((xs ++ rest).toArray.toList.take o ++ (cs ++ (xs ++ rest).toArray.toList.drop (o + cs.length))).toArray) a t (splice xs o cs) cap := by
  refine ⟨rest, ?_, by rw [length_splice _ _ _ h]; exact hc⟩
  have e : (xs ++ rest).toArray.toList.take o ++ (cs ++ (xs ++ rest).toArray.toList.drop (o + cs.length)) = splice xs o cs ++ rest := by
    unfold splice
    rw [show (xs ++ rest).toArray.toList = xs ++ rest from rfl, List.take_append_of_le_length (by omega), List.drop_append_of_le_length h]
    simp [List.append_assoc]
  rw [e]
  unfold Blk at hb ⊢
  simp [World.setRow, Array.getElem?_modify, hb]
theorem mod_setRow {w : World} {a : Nat} (cs : Array Value) : Mod (fun k => k = a) w (w.setRow a cs) :=
  ⟨rfl, rfl, rfl, by simp [World.setRow], fun k hk hn => setRow_other w a k cs hn⟩
theorem CoR.next {w wr W1 w3 w5 : World} {base : Nat} {q : AAd} {lim : Int} {its : List Itm} {a : Nat} {RA : Option Addr} {rc b2 k i : Nat} {L L' : List Int} {MA MA3 : Option Addr} {mc mc3 : Nat} {o : Obj}
    (h : CoR w wr base q lim its a RA rc b2 k i L MA mc) {j : Nat} (hj : j < its.length) (hkl : k < (refs its).length) (hrk : (refs its)[k] = sumw (its.take j)) (hrt : refs (its.take (j + 1)) = (refs its).take (k + 1)) (hke : refs (keep (its.take (j + 1))) = refs (keep (its.take i)) ++ [sumw (keep (its.take i))])
    (hrow : Row W1 a 71 (UZ L') q.c) (hm1 : Mod (fun j => j = a) wr W1) (hll : L'.length = sumw its) (hl1 : L'.take (sumw (keep (its.take (j + 1)))) = flat (keep (its.take (j + 1)))) (hl2 : L'.drop (sumw (its.take (j + 1))) = (flat its).drop (sumw (its.take (j + 1))))
    (hmv : SRow w3 w.heap.size 42 2 MA3 (k + 1) mc3 (mvC ((refs its).take k) (refs (keep (its.take i))) ++ [.int .i64 ((sumw (its.take j) : Nat) : Int), .int .i64 ((sumw (keep (its.take i)) : Nat) : Int)])) (hm3 : Mod (fun i => MA = some ⟨i, 0, none⟩) (W1.alloc o) w3)
    (hmp : MapK w5 b2 (k + 1) (refs (keep (its.take i)) ++ [sumw (keep (its.take i))])) (hm5 : Mod (fun i => i = b2) w3 w5) : CoR w w5 base q lim its a RA rc b2 (k + 1) (j + 1) L' MA3 mc3 := by
  have hal : Mod (fun _ => False) W1 (W1.alloc o) := (Mod.refl _ _).alloc o
  have hmvr := (h.mv.mod hm1 (fun i e e2 => SRow.ne_blk h.mv (show Blk wr a 71 _ from h.row.choose_spec.1) (by decide) e e2))
  have hb1 := (h.blk.mod hm1 (fun e => (h.row.ne_blk h.blk (by decide)) e.symm))
  have hb3 := (hb1.mod hal id).mod hm3 (fun e => SRow.ne_blk hmvr hb1 (by decide) e rfl)
  have hp1 := h.mp.mod hm1 (fun e => h.mp.ne h.row.choose_spec.1 e.symm)
  have hp3 := (hp1.mod hal id).mod hm3 (fun e => SRow.ne_map hmvr hp1 e rfl)
  have hr3 := (hrow.mod hal id).mod hm3 (fun e => SRow.ne_blk hmvr (show Blk W1 a 71 _ from hrow.choose_spec.1) (by decide) e rfl)
  have hrr1 := h.rr.mod hm1 (fun i _ e e2 => Own.ne_blk h.rr (show Blk wr a 71 _ from h.row.choose_spec.1) (by decide) e e2)
  have hrr3 := (hrr1.mod hal (fun _ _ _ => id)).mod hm3 (fun i hi e e2 => by
    obtain ⟨_, ⟨rfl, _⟩ | ⟨g, rfl, _, _, hg⟩⟩ := hrr1
    · cases e
    · obtain rfl : g = i := by injection e with e; injection e
      exact SRow.ne_blk hmvr (show Blk W1 g 32 _ from hg.choose_spec.1) (by decide) e2 rfl)
  have hkk : ((refs its).take k).length = k := by rw [List.length_take]; omega
  have hlen : ((refs its).take k).length = (refs (keep (its.take i))).length := by
    rw [hkk, ← keep_len (keep (its.take i)), show (keep (keep (its.take i))).length = (keep (its.take i)).length from by
      unfold keep
      rw [List.filter_map, List.filter_filter]
      simp only [List.length_map]
      congr 1
      refine List.filter_congr fun x hx => ?_
      show (!x.dead && !x.dead) = _
      cases x.dead <;> rfl, keep_len, h.hk, hkk]
  refine ⟨hb3.mod hm5 (fun e => hp3.ne hb3 e), hr3.mod hm5 (fun e => hp3.ne hr3.choose_spec.1 e), by rw [hke]; exact hmp, hrr3.mod hm5 (fun i _ e e2 => Own.ne_map hrr3 hp3 e e2), ?_, hj, hrt, hkl, hll, hl1, hl2, ?_, h.b2⟩
  · rw [List.take_succ_eq_append_getElem hkl, hrk, hke, mvC_snoc _ _ _ _ hlen]
    exact hmv.mod hm5 (fun i e e2 => SRow.ne_map hmv hp3 e e2)
  · refine ((h.m.then_ hm1).trans hal (fun _ _ e => e.elim)).trans hm3 (fun i hi e => ?_) |>.trans hm5 (fun i hi e => ?_)
    · have := (hmvr.lt e).1; omega
    · have := h.b2; omega
theorem CoR.mv1 {w wr W1 : World} {base : Nat} {q : AAd} {lim : Int} {its : List Itm} {a : Nat} {RA : Option Addr} {rc b2 k i : Nat} {L : List Int} {MA : Option Addr} {mc : Nat} (h : CoR w wr base q lim its a RA rc b2 k i L MA mc) (hm1 : Mod (fun j => j = a) wr W1) (o : Obj) :
    SRow (W1.alloc o) w.heap.size 42 2 MA k mc (mvC ((refs its).take k) (refs (keep (its.take i)))) :=
  (h.mv.mod hm1 (fun i e e2 => SRow.ne_blk h.mv (show Blk wr a 71 _ from h.row.choose_spec.1) (by decide) e e2)).mod ((Mod.refl (fun _ => False) W1).alloc o) (fun _ _ => id)
theorem CoR.mp3 {w wr W1 w3 : World} {base : Nat} {q : AAd} {lim : Int} {its : List Itm} {a : Nat} {RA : Option Addr} {rc b2 k i : Nat} {L : List Int} {MA : Option Addr} {mc : Nat} {o : Obj} (h : CoR w wr base q lim its a RA rc b2 k i L MA mc) (hm1 : Mod (fun j => j = a) wr W1) (hm3 : Mod (fun i => MA = some ⟨i, 0, none⟩) (W1.alloc o) w3) :
    MapK w3 b2 k (refs (keep (its.take i))) := by
  have hp1 := h.mp.mod hm1 (fun e => h.mp.ne h.row.choose_spec.1 e.symm)
  have hp2 := hp1.mod ((Mod.refl (fun _ => False) W1).alloc o) id
  exact hp2.mod hm3 (fun e => SRow.ne_map (h.mv1 hm1 o) hp2 e rfl)
theorem Row.take_ {w : World} {g cap : Nat} {t : TypeId} {xs : List Value} (h : Row w g t xs cap) (n : Nat) : Row w g t (xs.take n) cap := by
  obtain ⟨r, h1, h2⟩ := h
  refine ⟨xs.drop n ++ r, by rw [← List.append_assoc, List.take_append_drop]; exact h1, ?_⟩
  have : (xs.take n).length + (xs.drop n).length = xs.length := by rw [← List.length_append, List.take_append_drop]
  rw [List.length_append]; omega
def CollectR (w : World) (base : Nat) (q : AAd) (lim : Int) (its : List Itm) (e : Ending) (w' : World) : Prop :=
  (∃ A c, e = .returned (.slice A (refs its).length c) ∧ SRow w' w.heap.size 42 2 A (refs its).length c (mvC (refs its) (refs (keep its)))) ∧
  (∃ q', q'.g = q.g ∧ AR w' base q' lim (keep its) ∧ ∀ i, mq q' i → mq q i ∨ w.heap.size ≤ i) ∧ Mod (mq q) w w'
theorem collect_nil (w : World) : Calls Try.prog 12 #[.pointer none] w fun e w' => e = .returned (.slice none 0 0) ∧ w = w' := by
  go_enter Try.func12, Try.ntmps12
  go_wp2
  go_ret
  exact ⟨rfl, rfl⟩
set_option maxRecDepth 100000 in
set_option maxHeartbeats 2000000 in
theorem collect_any {w : World} {base : Nat} {q : AAd} {lim : Int} {its : List Itm} (h : AR w base q lim its) (hbw : base ≤ w.heap.size) : Calls Try.prog 12 #[.pointer (some ⟨q.g, 0, none⟩)] w (CollectR w base q lim its) := by
  have hmm := @run_makeMap Try.prog
  have hb1 : Below w.heap.size w (w.alloc (.map #[] 0)) := (Below.refl _ _).alloc (Nat.le_refl _) _
  have HR := Lib.hid (refs_any (h.below hb1))
  have H := Lib.hid h
  rcases hA : q.A with _ | ad
  · have hz : its = [] ∧ q.c = 0 := by
      obtain ⟨e0, ⟨_, ec, e⟩ | ⟨a, e, _⟩⟩ := h.row
      · have h1 := congrArg List.length e
        unfold UZ at h1
        rw [List.length_map, flat_len h.ok] at h1
        have h2 := len_le h.ok
        have h3 : sumw its = 0 := h1
        exact ⟨List.eq_nil_of_length_eq_zero (by omega), ec⟩
      · rw [hA] at e; cases e
    obtain ⟨rfl, hc0⟩ := hz
    have c1 : w.cell? ⟨q.g, 1, none⟩ = some (.slice none 0 0) := by have := h.blk.cell 1; rw [hA, hc0] at this; exact this
    have HC := Lib.hid (fun wr (hb : Below w.heap.size w wr) (hmp : MapK wr w.heap.size 0 []) => show wr.cell? ⟨q.g, 1, none⟩ = some (.slice none 0 0) ∧ wr.cell? ⟨q.g, 2, none⟩ = some (.map (some q.b)) ∧ wr.cell? ⟨q.g, 3, none⟩ = some (.int .i64 0) ∧ (∀ j, wr.frozen? ⟨q.g, j, none⟩ = false) ∧ CollectR w base q lim [] (.returned (.slice none 0 0)) (((wr.setCell ⟨q.g, 1, none⟩ (.slice none 0 0)).setCell ⟨q.g, 2, none⟩ (.map (some w.heap.size))).setCell ⟨q.g, 3, none⟩ (.int .i64 0)) from by
      have hbk := h.blk.below hb
      rw [hA, hc0] at hbk
      have hbk : Blk wr q.g 69 #[.int .i64 lim, .slice none 0 0, .map (some q.b), .int .i64 0] := hbk
      refine ⟨hbk.cell 1, hbk.cell 2, hbk.cell 3, fun j => hbk.frozen j, ⟨none, 0, rfl, SRow.nil _ _ _ _⟩, ⟨⟨q.g, w.heap.size, 0, none, 0⟩, rfl, ⟨?_, App.Own.nil _ _ _, ?_, fun x hx => (by cases hx), h.l0, by show ((0 : Nat) : Int) ≤ lim; have := h.l0; omega, Nat.zero_le _, h.gb, hbw⟩, fun k hk => ?_⟩, ?_⟩
      · exact Blk.set_ (Blk.set_ (Blk.set_ hbk 1 _) 2 _) 3 _
      · have h2 : Mod (fun j => j = q.g) wr (((wr.setCell ⟨q.g, 1, none⟩ (.slice none 0 0)).setCell ⟨q.g, 2, none⟩ (.map (some w.heap.size))).setCell ⟨q.g, 3, none⟩ (.int .i64 0)) :=
          Mod.setCell (S := fun j => j = q.g) (Mod.setCell (S := fun j => j = q.g) (Mod.setCell (S := fun j => j = q.g) (Mod.refl _ _) (p := ⟨q.g, 1, none⟩) (.inl rfl) _) (p := ⟨q.g, 2, none⟩) (.inl rfl) _) (p := ⟨q.g, 3, none⟩) (.inl rfl) _
        exact hmp.mod h2 (fun e => hmp.ne hbk e.symm)
      · rcases hk with e | e | e
        · exact .inl (.inl e)
        · exact .inr (Nat.le_of_eq e.symm)
        · cases e
      · exact (Mod.none_ hb (mq q)).then_ (Mod.mono (Mod.setCell (S := fun j => j = q.g) (Mod.setCell (S := fun j => j = q.g) (Mod.setCell (S := fun j => j = q.g) (Mod.refl _ _) (p := ⟨q.g, 1, none⟩) (.inl rfl) _) (p := ⟨q.g, 2, none⟩) (.inl rfl) _) (p := ⟨q.g, 3, none⟩) (.inl rfl) _) fun k _ e => .inl e))
    have HBB := Lib.hid hb1
    clear h H c1 hb1
    go_enter Try.func12, Try.ntmps12
    go_wp2_with fail
    refine HR.out.mono ?_
    rintro e w2 ⟨⟨RA, rc, rfl, hO⟩, hb2⟩
    have HB2 := Lib.hid (below_then HBB.out hb2 (by simp))
    have HM2 := Lib.hid ((MapK.made w).below hb2)
    clear HR hO hb2
    rw [show refs [] = [] from rfl, List.length_nil]
    go_wp2_with fail
    go_loopw [3, 4, 15] (fun l e i wr => l = .slice none 0 0 ∧ e = .int .i64 0 ∧ i = .int .i64 0 ∧ w2 = wr) (fun _ _ _ _ => 0)
    case atStart => exact ⟨rfl, rfl, rfl, rfl⟩
    case round =>
      obtain ⟨rfl, rfl, rfl, rfl⟩ := hrel
      obtain ⟨c1, c2, c3, ff, hfin⟩ := HC.out w2 HB2.out HM2.out
      have f1 := ff 1
      have f2 := ff 2
      have f3 := ff 3
      have HFI := Lib.hid hfin
      clear hfin ff HC
      go_wp2
      go_ret
      exact HFI.out
  obtain ⟨a, rfl, hba, hcm, hrow⟩ : ∃ a, ad = ⟨a, 0, none⟩ ∧ base ≤ a ∧ q.c ≤ maxLen ∧ Row w a 71 (UZ (flat its)) q.c := by
    obtain ⟨_, ⟨e, _⟩ | ⟨a, e, h1, h2, h3⟩⟩ := h.row
    · rw [hA] at e; cases e
    · rw [hA] at e; injection e with e
      exact ⟨a, e, h1, h2, h3⟩
  have hl0 := h.l0
  have hl1 := h.l1
  have hok := h.ok
  have hfl := flat_len h.ok
  have hNc : sumw its ≤ q.c := by
    have h5 := hrow.le
    unfold UZ at h5
    rw [List.length_map, hfl] at h5
    exact h5
  have HFN := Lib.hid (fun wr RA rc i L MA mc (hc : CoR w wr base q lim its a RA rc w.heap.size (refs its).length i L MA mc) (W : World) (hW : W = (((wr.setCell ⟨q.g, 1, none⟩ (.slice (some ⟨a, 0, none⟩) (sumw (keep (its.take i))) q.c)).setCell ⟨q.g, 2, none⟩ (.map (some w.heap.size))).setCell ⟨q.g, 3, none⟩ (.int .i64 0))) =>
    show CollectR w base q lim its (.returned (.slice MA (refs its).length mc)) W from by
    have hkr : refs (its.take i) = refs its := by rw [hc.hk, List.take_of_length_le (Nat.le_refl _)]
    have hka := keep_all hkr
    have hmg : Mod (fun j => j = q.g) wr W := by
      rw [hW]
      exact Mod.setCell (S := fun j => j = q.g) (Mod.setCell (S := fun j => j = q.g) (Mod.setCell (S := fun j => j = q.g) (Mod.refl _ _) (p := ⟨q.g, 1, none⟩) (.inl rfl) _) (p := ⟨q.g, 2, none⟩) (.inl rfl) _) (p := ⟨q.g, 3, none⟩) (.inl rfl) _
    have hbl : Blk W q.g 69 #[.int .i64 lim, .slice (some ⟨a, 0, none⟩) (sumw (keep (its.take i))) q.c, .map (some w.heap.size), .int .i64 0] := by
      rw [hW]; exact Blk.set_ (Blk.set_ (Blk.set_ hc.blk 1 _) 2 _) 3 _
    rw [hka] at hbl
    have hrw := Row.take_ hc.row (sumw (keep its))
    have hl1' := hc.l1
    rw [hka] at hl1'
    have hle := keep_sumw hok
    have hrw2 : Row wr a 71 (UZ (flat (keep its))) q.c := by
      unfold UZ at hrw ⊢
      rwa [← List.map_take, hl1'] at hrw
    refine ⟨⟨MA, mc, rfl, ?_⟩, ⟨⟨q.g, w.heap.size, (refs its).length, some ⟨a, 0, none⟩, q.c⟩, rfl, ⟨?_, ?_, ?_, keep_ok hok, hl0, ?_, ?_, H.out.gb, hbw⟩, fun k hk => ?_⟩, (hc.m.mono fun k _ e => .inr (.inr (by rw [e]; exact hA))).then_ (hmg.mono fun k _ e => .inl e)⟩
    · have := hc.mv
      rw [List.take_of_length_le (Nat.le_refl _), hka] at this
      exact this.mod hmg (fun k e e2 => SRow.ne_blk hc.mv hc.blk (by decide) e e2)
    · rw [keep_waste]; exact hbl
    · refine ⟨by unfold UZ; rw [List.length_map, flat_len (keep_ok hok)], .inr ⟨a, rfl, hba, hcm, hrw2.mod hmg (fun e => hc.row.ne_blk hc.blk (by decide) e)⟩⟩
    · have := hc.mp
      rw [hka] at this
      exact this.mod hmg (fun e => hc.mp.ne hc.blk e.symm)
    · have := hl1; omega
    · rw [keep_len]; exact Nat.le_refl _
    · rcases hk with e | e | e
      · exact .inl (.inl e)
      · exact .inr (Nat.le_of_eq e.symm)
      · exact .inl (.inr (.inr (by rw [hA]; exact e))))
  go_enter Try.func12, Try.ntmps12
  go_wp2_with fail
  refine HR.out.mono ?_
  rintro e w2 ⟨⟨RA, rc, rfl, hO⟩, hb2⟩
  have HC0 := Lib.hid (show CoR w w2 base q lim its a RA rc w.heap.size 0 0 (flat its) none 0 from by
    have hB2 : Below w.heap.size w w2 := below_then hb1 hb2 (by simp)
    refine ⟨?_, hrow.below hB2, (MapK.made w).below hb2, hO.low (by simp), SRow.nil _ _ _ _, Nat.zero_le _, rfl, Nat.zero_le _, hfl, rfl, rfl, Mod.none_ hB2 _, Nat.le_refl _⟩
    have := h.blk.below hB2
    rwa [hA] at this)
  clear HR h hrow hO hb1 hb2 hfl
  have hnl : (refs its).length ≤ 268435456 := by
    have h1 := len_le hok
    have h2 : (refs its).length ≤ its.length := by rw [← keep_len]; unfold keep; rw [List.length_map]; exact List.length_filter_le _ _
    omega
  go_wp2_with fail
  go_loopw [3, 4, 15] (fun l e i wr => ∃ (k j : Nat) (L : List Int) (MA : Option Addr) (mc : Nat), i = .int .i64 k ∧ l = .slice MA k mc ∧ e = .int .i64 (sumw (keep (its.take j)) : Nat) ∧ CoR w wr base q lim its a RA rc w.heap.size k j L MA mc) (fun _ _ i _ => (refs its).length - (intOf i).toNat)
  case atStart => exact ⟨0, 0, flat its, none, 0, rfl, rfl, rfl, HC0.out⟩
  case round =>
    clear HC0
    obtain ⟨k, i, L, MA, mc, rfl, rfl, rfl, hc⟩ := hrel
    have HC := Lib.hid hc
    by_cases hlt : k < (refs its).length
    · obtain ⟨j, hj, hij, hd, hke, hrk, hrt⟩ := next_live hc.hi hc.hk hlt
      obtain ⟨p1, p2, p3, p4, p5, p6, p7, p8⟩ := copy_plain hok hij hj hd hke hc.ll hc.l1 hc.l2
      have hw := (hok _ (List.getElem_mem hj)).wd
      obtain ⟨rb, eR, hrb, hrr⟩ := hc.rr.row (by omega)
      have hcr : wr.cell? ⟨rb, k, none⟩ = some (.int .i64 (sumw (its.take j) : Nat)) := hrr.cell (by
        unfold NZ
        rw [List.map_map, List.getElem?_map, List.getElem?_eq_getElem hlt, hrk]; rfl)
      have c1 : wr.cell? ⟨q.g, 1, none⟩ = some (.slice (some ⟨a, 0, none⟩) (sumw its) q.c) := hc.blk.cell 1
      have w0 : wr.cell? ⟨a, sumw (its.take j), none⟩ = some (.int .u32 (hdI its[j])) := hc.row.cell (by
        have := p1 0 (hdI its[j]) (by omega) rfl
        rw [Nat.add_zero] at this
        unfold UZ; rw [List.getElem?_map, this]; rfl)
      have hhd := hdI_bd its[j]
      have HZ := Lib.hid (size_raw (w := wr) (g := q.g) (c := q.c) c1 w0 (by omega) (by omega) (by omega) (by omega))
      rw [show hdI its[j] / 4 = ((its[j].l.length : Nat) : Int) by omega] at HZ
      obtain ⟨rest, hblk, hcr2⟩ := hc.row
      have huzl : (UZ L).length = sumw its := by unfold UZ; rw [List.length_map, hc.ll]
      have hcl : (UZ ((enc its[j]).take (4 + its[j].l.length))).length = 4 + its[j].l.length := by
        unfold UZ; rw [List.length_map, List.length_take, enc_len (hok _ (List.getElem_mem hj))]; omega
      have HCP := Lib.hid (Row.copied (w := wr.drew) (cs := UZ ((enc its[j]).take (4 + its[j].l.length))) (o := sumw (keep (its.take i))) hblk.drew hcr2 (by rw [hcl, huzl]; omega))
      have HSRC := Lib.hid (fun m v (hm : (UZ ((enc its[j]).take (4 + its[j].l.length)))[m]? = some v) => show (wr.drew).cell? (Addr.add ⟨a, sumw (its.take j), none⟩ m) = some v from by
        rw [Go.WideShapes.add_plain]
        have hml : m < 4 + its[j].l.length := by rw [← hcl]; exact (List.getElem?_eq_some_iff.1 hm).1
        refine Row.cell (xs := UZ L) ⟨rest, hblk.drew, hcr2⟩ ?_
        unfold UZ at hm ⊢
        rw [List.getElem?_map, List.getElem?_take_of_lt hml] at hm
        rw [List.getElem?_map]
        rcases hx : (enc its[j])[m]? with _ | v'
        · rw [hx] at hm; cases hm
        · rw [hx] at hm
          rw [p1 m v' (by omega) hx]
          exact hm)
      have HB0 := Lib.hid hblk.drew
      have HNX := Lib.hid (fun W1 (hrow : Row W1 a 71 (UZ (splice L (sumw (keep (its.take i))) ((enc its[j]).take (4 + its[j].l.length)))) q.c) (hm1 : Mod (fun j => j = a) wr W1) o w3 w5 MA3 mc3 hmv hm3 hmp hm5 => hc.next (W1 := W1) (w3 := w3) (w5 := w5) (o := o) (MA3 := MA3) (mc3 := mc3) hj hlt hrk hrt p8 hrow hm1 p4 p5 p6 hmv hm3 hmp hm5)
      have HMV := Lib.hid hc.mv
      have HMP := Lib.hid hc.mp
      have HP7 := Lib.hid p7
      subst eR
      have HHL := Lib.hid hcl
      have HUZ := Lib.hid huzl
      clear p1 p4 p5 p6 p7 p8 hrr hc hblk hcr2 hcl huzl w0 hhd hke hrt hrk
      generalize sumw (its.take j) = r at *
      generalize its[j].l.length = Lx at *
      obtain ⟨E, hE⟩ : ∃ E, sumw (keep (its.take i)) = E := ⟨_, rfl⟩
      rw [hE] at p2 HCP HNX HP7 ⊢
      clear hE
      have e9 : IntKind.i64.wrap (4 + (Lx : Int)) = ((4 + Lx : Nat) : Int) := by rw [IntWalk.i64_in _ (by omega)]; omega
      have k1 : (E : Int) < (q.c : Int) := by omega
      have k2 : E < q.c := by omega
      have k3 : (r : Int) < (q.c : Int) := by omega
      have k4 : r < q.c := by omega
      have k5 : r + (4 + Lx) ≤ q.c := by omega
      have k6 : E ≤ sumw its := by omega
      have k7 : (E : Int) ≤ (sumw its : Int) := by omega
      have k8 : (0 : Int) ≤ (E : Int) := by omega
      have k9 : (r : Int) + (4 + (Lx : Int)) ≤ (q.c : Int) := by omega
      have k10 : (r : Int) ≤ (r : Int) + (4 + (Lx : Int)) := by omega
      have k11 : (0 : Int) ≤ (r : Int) := by omega
      have k12 : (sumw its : Int) ≤ (q.c : Int) := by omega
      have k13 : ¬ q.c = E := by omega
      have k14 : ¬ q.c = r := by omega
      have e10 : IntKind.i64.wrap ((r : Int) + (4 + (Lx : Int))) = (r : Int) + (4 + (Lx : Int)) := IntWalk.i64_in _ (by omega)
      go_wp2_with fail
      refine HZ.out.mono ?_
      rintro e w3 ⟨rfl, rfl⟩
      go_wp2_with fail
      refine wp_region_still_tail 15 (by kernel_rfl) (by kernel_rfl) ?_
      change wpStill _ _ wr.drew _ _ _
      simp only [List.take_succ_cons, List.take_zero, List.drop_succ_cons, List.drop_zero]
      repeat still_step
      refine wpStill_nil ?_
      change wpList _ _ _ _ _ wr.drew
      refine wpList_copy_own rfl _ _ _ _ rfl 71 Try.underlying67 (by kernel_rfl) a E _ _ ⟨a, r, none⟩ _ _ rfl rfl (UZ L ++ rest).toArray 71 HB0.out (UZ ((enc its[j]).take (4 + Lx))) (by rw [HHL.out, show ((r : Int) + (4 + (Lx : Int))).toNat - r = 4 + Lx by omega]; exact (Nat.min_eq_left (by omega)).symm) HSRC.out (by simp only [List.size_toArray, List.length_append]; rw [HHL.out, HUZ.out]; omega) (fun v hv => by obtain ⟨y, _, rfl⟩ := List.mem_map.1 hv; rfl) ?_
      obtain ⟨W1, hW1⟩ : ∃ W1, W1 = (wr.drew).setRow a ((UZ L ++ rest).toArray.toList.take E ++ (UZ ((enc its[j]).take (4 + Lx)) ++ (UZ L ++ rest).toArray.toList.drop (E + (UZ ((enc its[j]).take (4 + Lx))).length))).toArray := ⟨_, rfl⟩
      rw [← hW1]
      have HR1 := Lib.hid (show Row W1 a 71 (UZ (splice L E ((enc its[j]).take (4 + Lx)))) q.c from by
        rw [hW1]
        have := HCP.out
        unfold UZ at this ⊢
        rwa [splice_map] at this)
      have HM1 := Lib.hid (show Mod (fun j => j = a) wr W1 from by
        rw [hW1]
        exact ((Mod.refl _ wr).drew).then_ (mod_setRow _))
      have HB1 := Lib.hid (show w.heap.size ≤ W1.heap.size from Nat.le_trans HC.out.m.size HM1.out.size)
      have kkl : k + 1 ≤ 400000000 := by omega
      have kml : k < maxLen := by unfold maxLen; omega
      clear hW1 HCP HB0 HSRC HHL HUZ c1 hcr e9 e10 k1 k2 k3 k4 k5 k6 k7 k8 k9 k10 k11 k12 k13 k14
      have e11 : IntKind.i64.wrap ((E : Int) + (4 + (Lx : Int))) = (E : Int) + (4 + (Lx : Int)) := IntWalk.i64_in _ (by omega)
      go_wp2_with (first
        | (at_builtin; refine wpAppM rfl _ _ rfl w.heap.size MA k mc _ rfl (HC.out.mv1 HM1.out _) W1.heap.size 0 1 (r : Int) (E : Int) rfl (new_rd W1 [.int .i64 (r : Int), .int .i64 (E : Int)] _) kkl (by simp; have := HB1.out; omega) ?_; intro MA3 mc3 w3 hmv3 hm3 _; have HMV3 := Lib.hid hmv3; have HM3 := Lib.hid hm3; clear hmv3 hm3)
        | (at_mapUpdate; refine wpMapPut rfl _ _ _ rfl (HC.out.mp3 HM1.out HM3.out) rfl E (4 + (Lx : Int)) rfl rfl (by unfold inI; omega) (by unfold inI; omega) kml ?_; intro w5 hmp5 hm5; have HMP5 := Lib.hid hmp5; have HM5 := Lib.hid hm5; clear hmp5 hm5))
      go_roundw
      case rel => exact ⟨k + 1, j + 1, _, MA3, mc3, by go_num, rfl, by rw [HP7.out]; go_num, HNX.out W1 HR1.out HM1.out _ w3 w5 MA3 mc3 HMV3.out HM3.out HMP5.out HM5.out⟩
      case measure => simp [intOf]; omega
    · obtain rfl : k = (refs its).length := by have := hc.kl; omega
      have HFI := Lib.hid (HFN.out wr RA rc i L MA mc hc _ rfl)
      have hksn : sumw (keep (its.take i)) ≤ sumw its := by
        have h1 := keep_sumw (its := its.take i) fun x hx => hok x (List.mem_of_mem_take hx)
        have h2 := take_le hok i
        omega
      have c1 : wr.cell? ⟨q.g, 1, none⟩ = some (.slice (some ⟨a, 0, none⟩) (sumw its) q.c) := hc.blk.cell 1
      have c2 : wr.cell? ⟨q.g, 2, none⟩ = some (.map (some q.b)) := hc.blk.cell 2
      have c3 : wr.cell? ⟨q.g, 3, none⟩ = some (.int .i64 (waste its : Nat)) := hc.blk.cell 3
      have f1 := hc.blk.frozen 1
      have f2 := hc.blk.frozen 2
      have f3 := hc.blk.frozen 3
      clear hc HFN hlt
      generalize sumw (keep (its.take i)) = E at *
      generalize (refs its).length = n at *
      have k1 : E ≤ q.c := by omega
      have k2 : (E : Int) ≤ (q.c : Int) := by omega
      go_wp2
      go_ret
      exact HFI.out
end Go.Proofs.Ytenadnmglhghiaa.Ar
