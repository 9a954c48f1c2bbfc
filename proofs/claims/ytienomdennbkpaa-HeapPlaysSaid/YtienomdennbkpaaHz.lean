/- A heap and the document's beside one another: what a call leaves; plays. Conditions: the memory. -/
import Derived.Test.YtienomdennbkpaaHy
namespace Go.Proofs.Ytienomdennbkpaa.He
open Go.RowKit Go.Proofs.Ytienomdennbkpaa.Mem Go.Proofs.Ytienomdennbkpaa.Sl Go.Shelf
open Go.Proofs.Ytienomdennbkpaa.FnL (enc_at below_then)
open Go.Proofs.Ytienomdennbkpaa.Lt (Later wp_region_later)
set_option linter.unusedVariables false

/-- Both, alike, apart. -/
structure St (w : World) (B N : Nat) (q : HA) (d : DA) (m : HM) (l : List Int) : Prop where
  h : HL w B N q m
  r : RH w B N d m.s l
  o : Ord m.s l m.l
  ap : ∀ i, mine q i → ¬ mineD d i
def FP (q : HA) (d : DA) (i : Nat) : Prop := mine q i ∨ mineD d i
section
variable {w w' w2 : World} {B N : Nat} {q : HA} {d : DA} {m : HM} {l : List Int}
theorem St.mod {S : Nat → Prop} (h : St w B N q d m l) (hm : Mod S w w') (hS : ∀ i, FP q d i → ¬ S i) : St w' B N q d m l :=
  ⟨h.h.mod hm (fun i hi => hS i (.inl hi)), h.r.mod hm (fun i hi => hS i (.inr hi)), h.o, h.ap⟩
theorem St.below (h : St w B N q d m l) (hb : Below w.heap.size w w') : St w' B N q d m l := h.mod (Mod.none_ hb (fun _ => False)) (fun _ _ => id)
theorem St.low {B' : Nat} (h : St w B N q d m l) (hb : B' ≤ B) : St w B' N q d m l := ⟨h.h.low hb, h.r.low hb, h.o, h.ap⟩
theorem St.lt (h : St w B N q d m l) {i : Nat} (hi : FP q d i) : B ≤ i ∧ i < w.heap.size := hi.elim (fun hi => h.h.hr.lt hi) (fun hi => h.r.lt hi)
/-- Both behind a call: their pointers as they were. -/
def Step (w : World) (B N : Nat) (q : HA) (d : DA) (w' : World) : Prop :=
  ∃ q' d' m' l', St w' B N q' d' m' l' ∧ q'.g = q.g ∧ d'.g = d.g ∧ (∀ i, FP q' d' i → FP q d i ∨ w.heap.size ≤ i) ∧ Mod (FP q d) w w'
theorem St.refl (h : St w B N q d m l) : Step w B N q d w := ⟨q, d, m, l, h, rfl, rfl, fun _ e => .inl e, Mod.refl _ _⟩
theorem Step.after (hb : Below w.heap.size w w') (h : Step w' B N q d w2) : Step w B N q d w2 := by
  obtain ⟨q', d', m', l', h1, h2, h3, h4, h5⟩ := h
  exact ⟨q', d', m', l', h1, h2, h3, fun i hi => (h4 i hi).imp id (fun e => Nat.le_trans hb.size e), (Mod.none_ hb _).then_ h5⟩
theorem Step.then_ (h : Step w B N q d w') (hb : Below w'.heap.size w' w2) : Step w B N q d w2 := by
  obtain ⟨q', d', m', l', h1, h2, h3, h4, h5⟩ := h
  exact ⟨q', d', m', l', h1.below hb, h2, h3, h4, h5.then_ (Mod.none_ hb _)⟩
/-- The heap has been called; what lies between. -/
theorem St.half {s' L : List Int} (h : St w B N q d m l) (k : Next w B N q s' L w') : RH w' B N d m.s l := by
  obtain ⟨_, _, _, _, _, _, _, hm⟩ := k
  exact h.r.mod hm (fun i hi e => h.ap i e hi)
/-- Then the document's. -/
theorem St.step {s' L L' : List Int} (h : St w B N q d m l) (k : Next w B N q s' L w') (k2 : DNext w' B N d s' L' w2) (hp : L.Perm L') : Step w B N q d w2 := by
  obtain ⟨q', m', a1, a2, a3, a4, a5, a6⟩ := k
  obtain ⟨l', ⟨d', b1, b2, b3, b4⟩, b5⟩ := k2
  subst a2
  have hd : ∀ i, i = d.g ∨ i = d.s → mineD d i ∧ i < w.heap.size := fun i e => by
    have : mineD d i := e.elim (fun e => .inl e) (fun e => .inr (.inl e))
    exact ⟨this, (h.r.lt this).2⟩
  refine ⟨q', d', m', l', ⟨a1.mod b4 (fun i hi e => ?_), b1, ⟨b5.1.trans (hp.symm.trans a3.symm), b5.2⟩, fun i hi hj => ?_⟩, a4, b2.1, fun i hi => ?_, ?_⟩
  · rcases a5 i hi with e2 | e2
    · exact h.ap i e2 (hd i e).1
    · have := (hd i e).2; omega
  · have hlt := (a1.hr.lt hi).2
    rcases b3 i hj with e | e
    · have h1 := (h.r.lt e).2
      rcases a5 i hi with e2 | e2
      · exact h.ap i e2 e
      · omega
    · omega
  · rcases hi with hi | hi
    · exact (a5 i hi).imp (fun e => .inl e) id
    · exact (b3 i hi).imp (fun e => .inr e) (fun e => Nat.le_trans a6.size e)
  · exact (a6.mono fun _ _ e => .inl e).trans b4 fun i _ e => .inr (hd i e).1
end
/-- Both are asked to push. -/
theorem push_both {w : World} {B N : Nat} {q : HA} {d : DA} {m : HM} {l : List Int} (h : St w B N q d m l) (hB : B ≤ w.heap.size) (v : Int) :
    Calls Try.prog 11 #[.pointer (some ⟨q.g, 0, none⟩), .int .i64 v] w fun e w' => e = .returned (.int .i64 (pushE N l v)) ∧ Mod (mine q) w w' ∧
      ∀ w1, Below w'.heap.size w' w1 → Calls Try.prog 44 #[.pointer (some ⟨d.g, 0, none⟩), .int .i64 v] w1 fun e w2 => e = .returned (.int .i64 (pushE N l v)) ∧ Step w B N q d w2 := by
  refine (hpush_any h.h hB v).mono fun e w' ⟨k1, k2⟩ => ?_
  obtain ⟨p1, p2⟩ := pushE_perm (N := N) h.o.1.symm v
  have hr := h.half k2
  have hmm : Mod (mine q) w w' := by obtain ⟨_, _, _, _, _, _, _, hm⟩ := k2; exact hm
  have hB2 : B ≤ w'.heap.size := Nat.le_trans hB hmm.size
  refine ⟨p1 ▸ k1, hmm, fun w1 hb => (dpush_any (hr.below hb) h.o.2 (Nat.le_trans hB2 hb.size) v).mono fun e w2 ⟨j1, j2⟩ => ⟨j1, ?_⟩⟩
  have k3 : Next w B N q m.s (pushL N m.l v) w1 := by
    obtain ⟨q', m', a1, a2, a3, a4, a5, a6⟩ := k2
    exact ⟨q', m', a1.below hb, a2, a3, a4, a5, a6.then_ (Mod.none_ hb _)⟩
  exact h.step k3 j2 p2
theorem Next.then_ {w w' w1 : World} {B N : Nat} {q : HA} {s L : List Int} (k : Next w B N q s L w') (hb : Below w'.heap.size w' w1) : Next w B N q s L w1 := by
  obtain ⟨q', m', a1, a2, a3, a4, a5, a6⟩ := k
  exact ⟨q', m', a1.below hb, a2, a3, a4, a5, a6.then_ (Mod.none_ hb _)⟩
theorem Next.size {w w' : World} {B N : Nat} {q : HA} {s L : List Int} (k : Next w B N q s L w') : w.heap.size ≤ w'.heap.size := by
  obtain ⟨_, _, _, _, _, _, _, hm⟩ := k; exact hm.size
theorem rem_both {w : World} {B N : Nat} {q : HA} {d : DA} {m : HM} {l : List Int} (h : St w B N q d m l) (hB : B ≤ w.heap.size) (v : Int) :
    Calls Try.prog 17 #[.pointer (some ⟨q.g, 0, none⟩), .int .i64 v] w fun e w' => e = .returned (.int .i64 (remE N l v)) ∧ Mod (mine q) w w' ∧
      ∀ w1, Below w'.heap.size w' w1 → Calls Try.prog 42 #[.pointer (some ⟨d.g, 0, none⟩), .int .i64 v] w1 fun e w2 => e = .returned (.int .i64 (remE N l v)) ∧ Step w B N q d w2 := by
  refine (hrem_any h.h v).mono fun e w' ⟨k1, k2⟩ => ?_
  have hr := h.half k2
  have hB2 := Nat.le_trans hB k2.size
  have hmm : Mod (mine q) w w' := by obtain ⟨_, _, _, _, _, _, _, hm⟩ := k2; exact hm
  refine ⟨(remE_perm (N := N) h.o.1.symm v) ▸ k1, hmm, fun w1 hb => (drem_any (hr.below hb) h.o.2 (Nat.le_trans hB2 hb.size) v).mono fun e w2 ⟨j1, j2⟩ => ⟨j1, h.step (k2.then_ hb) j2 (h.o.1.symm.erase v)⟩⟩
theorem pop_both {w : World} {B N : Nat} {q : HA} {d : DA} {m : HM} {l : List Int} (h : St w B N q d m l) (hB : B ≤ w.heap.size) :
    Calls Try.prog 21 #[.pointer (some ⟨q.g, 0, none⟩)] w fun e w' => e = .returned (.tuple #[.int .i64 (l.getD 0 0), .bool (decide (0 < l.length))]) ∧ B ≤ w'.heap.size ∧
      Calls Try.prog 41 #[.pointer (some ⟨d.g, 0, none⟩)] w' fun e w2 => e = .returned (.tuple #[.int .i64 (l.getD 0 0), .bool (decide (0 < l.length))]) ∧ Step w B N q d w2 := by
  refine (hpop_any h.h).mono fun e w' ⟨k1, k2⟩ => ?_
  rw [h.h.top h.o, ← h.o.1.length_eq] at k1
  rw [h.h.top h.o] at k2
  have hr := h.half k2
  have hB2 := Nat.le_trans hB k2.size
  exact ⟨k1, hB2, (dpop_any hr h.o.2 hB2).mono fun e w2 ⟨j1, j2⟩ => ⟨j1, h.step k2 j2 (h.o.1.symm.erase _)⟩⟩
def BumpB (w : World) (B N : Nat) (q : HA) (d : DA) (v y : Int) (e : Ending) (w' : World) : Prop := ∃ b x, e = .returned (.tuple #[.bool b, .int .i64 x]) ∧ Mod (mine q) w w' ∧
  Calls Try.prog 43 #[.pointer (some ⟨d.g, 0, none⟩), .int .i64 v, .int .i64 y] w' fun e w2 => e = .returned (.tuple #[.bool b, .int .i64 x]) ∧ Step w B N q d w2
theorem bump_both {w : World} {B N : Nat} {q : HA} {d : DA} {m : HM} {l : List Int} (h : St w B N q d m l) (hB : B ≤ w.heap.size) (v y : Int) :
    Calls Try.prog 10 #[.pointer (some ⟨q.g, 0, none⟩), .int .i64 v, .int .i64 y] w (BumpB w B N q d v y) := by
  by_cases hb : isB N v = false ∨ y < 0 ∨ MOST < y
  · refine (bump_bad h.h.hr v y hb).mono fun e w' ⟨he, hw⟩ => ?_
    subst hw
    exact ⟨false, 2, he, Mod.refl _ _, (dbump_bad h.r v y hb).mono fun e w2 ⟨j1, j2⟩ => ⟨j1, j2 ▸ h.refl⟩⟩
  · have h1 : 1 ≤ v ∧ v ≤ N := by
      by_cases hq : 1 ≤ v ∧ v ≤ N
      · exact hq
      · exact absurd (.inl (decide_eq_false hq)) hb
    obtain ⟨u, rfl⟩ : ∃ u : Nat, v = u := ⟨v.toNat, by omega⟩
    have hy : 0 ≤ y ∧ y ≤ MOST := ⟨Int.not_lt.1 fun hq => hb (.inr (.inl hq)), Int.not_lt.1 fun hq => hb (.inr (.inr hq))⟩
    refine (bump_ok (l := m.l) (pl := m.pl) (s := m.s) h.h u y ⟨by omega, by omega⟩ hy).mono fun e w' ⟨k1, k2⟩ => ?_
    have hr := h.half k2
    have hB2 := Nat.le_trans hB k2.size
    have hmm : Mod (mine q) w w' := by obtain ⟨_, _, _, _, _, _, _, hm⟩ := k2; exact hm
    exact ⟨_, 0, k1, hmm, (dbump_ok hr hB2 h.h.sb u y ⟨by omega, by omega⟩ hy).mono fun e w2 ⟨j1, j2⟩ => ⟨j1, h.step k2 j2 h.o.1.symm⟩⟩
def PlaysR (w : World) (B N : Nat) (q : HA) (d : DA) (e : Ending) (w' : World) : Prop := e = .returned (.bool true) ∧ Step w B N q d w'
set_option maxRecDepth 100000 in
set_option maxHeartbeats 2000000 in
theorem plays_any {w : World} {B N : Nat} {q : HA} {d : DA} {m : HM} {l : List Int} (h : St w B N q d m l) (hB : B ≤ w.heap.size) (k v y : Int) (hk : 0 ≤ k) :
    Calls Try.prog 25 #[.pointer (some ⟨q.g, 0, none⟩), .pointer (some ⟨d.g, 0, none⟩), .agg #[.int .u8 k, .int .i64 v, .int .i64 y]] w (PlaysR w B N q d) := by
  obtain ⟨W, hW⟩ : ∃ W, W = w.alloc (.cells #[.int .u8 k, .int .i64 v, .int .i64 y] 44) := ⟨_, rfl⟩
  have hbk : Blk W w.heap.size 44 #[.int .u8 k, .int .i64 v, .int .i64 y] := by rw [hW]; exact Blk.new _ _ _
  have c0 : W.cell? ⟨w.heap.size, 0, none⟩ = some (.int .u8 k) := hbk.cell 0
  have c1 : W.cell? ⟨w.heap.size, 1, none⟩ = some (.int .i64 v) := hbk.cell 1
  have c2 : W.cell? ⟨w.heap.size, 2, none⟩ = some (.int .i64 y) := hbk.cell 2
  have hbw : Below w.heap.size w W := by rw [hW]; exact (Below.refl _ _).alloc (Nat.le_refl _) _
  have HBW := Lib.hid hbw
  have HW := Lib.hid hW
  have HST := Lib.hid (h.below hbw)
  have HBS := Lib.hid (Nat.le_trans hB hbw.size)
  have HCM := Lib.hid (fun W' (hm : Mod (mine q) W W') => (show W'.cell? ⟨w.heap.size, 1, none⟩ = some (.int .i64 v) ∧ W'.cell? ⟨w.heap.size, 2, none⟩ = some (.int .i64 y) from by
    have hb2 := hbk.mod hm (fun hm => by have := (h.h.hr.lt hm).2; omega)
    exact ⟨hb2.cell 1, hb2.cell 2⟩))
  have HCS := Lib.hid (fun w2 (hs : Step W.drew B N q d w2) => (show w2.cell? ⟨w.heap.size, 1, none⟩ = some (.int .i64 v) ∧ w2.cell? ⟨w.heap.size, 2, none⟩ = some (.int .i64 y) from by
    obtain ⟨_, _, _, _, _, _, _, _, hm⟩ := hs
    have hb2 := (hbk.drew).mod hm (fun hm => by have := (h.lt hm).2; omega)
    exact ⟨hb2.cell 1, hb2.cell 2⟩))
  have ht0 : 0 ≤ k.tmod 8 := Int.tmod_nonneg _ hk
  have ht1 : k.tmod 8 < 8 := Int.tmod_lt_of_pos _ (by decide)
  clear hW hbw h hB hbk hk
  by_cases t2 : k.tmod 8 = 2
  · have HP := Lib.hid (pop_both HST.out HBS.out)
    clear ht0 ht1
    go_enter Try.func25, Try.ntmps25
    go_upto_region 1 with (fail)
    rw [← HW.out]
    clear HW
    go_wp2_with fail
    refine HP.out.mono ?_
    rintro e w1 ⟨rfl, _, hc⟩
    have HC := Lib.hid hc
    clear hc
    go_wp2_with fail
    refine HC.out.mono ?_
    rintro e w2 ⟨rfl, hs⟩
    have HS := Lib.hid (Step.after HBW.out hs)
    clear hs
    go_wp2
    go_ret
    exact ⟨rfl, HS.out⟩
  by_cases t3 : k.tmod 8 = 3
  · have HP := Lib.hid (rem_both (HST.out.below (Below.refl _ _).drew) HBS.out v)
    clear ht0 ht1 t2
    go_enter Try.func25, Try.ntmps25
    go_upto_region 1 with (fail)
    rw [← HW.out]
    clear HW
    go_wp2_with fail
    go_region_held3 (fun w' => w'.cell? ⟨w.heap.size, 1, none⟩ = some (.int .i64 v)) (first | exact c1 | exact y1 | exact y2)
      (first
        | (go_at_call 17
           refine HP.out.mono ?_
           rintro e w1 ⟨rfl, hm, hc⟩
           have HC := Lib.hid (hc w1 (Below.refl _ _))
           have HM := Lib.hid hm
           have y1 := (HCM.out w1 (Mod.then_ ((Mod.refl _ W).drew) hm)).1
           clear hc hm)
        | (go_at_call 42
           refine HC.out.mono ?_
           rintro e w2 ⟨rfl, hs⟩
           have HS := Lib.hid (Step.after (HBW.out.drew) hs)
           have y2 := (HCS.out w2 hs).1
           clear hs))
    go_wp2
    go_ret
    exact ⟨rfl, HS.out⟩
  by_cases t4 : k.tmod 8 = 4
  · have HP := Lib.hid (bump_both HST.out HBS.out v y)
    clear ht0 ht1 t2 t3
    go_enter Try.func25, Try.ntmps25
    go_upto_region 1 with (fail)
    rw [← HW.out]
    clear HW
    go_wp2_with fail
    refine HP.out.mono ?_
    rintro e w1 ⟨b, x, rfl, hm, hc⟩
    have HC := Lib.hid hc
    obtain ⟨y1, y2⟩ := HCM.out w1 hm
    clear hc hm c0 c1 c2 HP
    go_wp2_with fail
    refine HC.out.mono ?_
    rintro e w2 ⟨rfl, hs⟩
    have HS := Lib.hid (Step.after HBW.out hs)
    clear hs
    go_wp2
    go_ret
    exact ⟨rfl, HS.out⟩
  by_cases t5 : k.tmod 8 = 5
  · have HP := Lib.hid (bump_both HST.out HBS.out v y)
    clear ht0 ht1 t2 t3 t4
    go_enter Try.func25, Try.ntmps25
    go_upto_region 1 with (fail)
    rw [← HW.out]
    clear HW
    go_wp2_with fail
    refine HP.out.mono ?_
    rintro e w1 ⟨b, x, rfl, hm, hc⟩
    have HC := Lib.hid hc
    obtain ⟨y1, y2⟩ := HCM.out w1 hm
    clear hc hm c0 c1 c2 HP
    go_wp2_with fail
    refine HC.out.mono ?_
    rintro e w2 ⟨rfl, hs⟩
    have HS := Lib.hid (Step.after HBW.out hs)
    clear hs
    go_wp2
    go_ret
    exact ⟨rfl, HS.out⟩
  have HP := Lib.hid (push_both (HST.out.below (Below.refl _ _).drew) HBS.out v)
  clear ht0 ht1
  go_enter Try.func25, Try.ntmps25
  go_upto_region 1 with (fail)
  rw [← HW.out]
  clear HW
  go_wp2_with fail
  go_region_held3 (fun w' => w'.cell? ⟨w.heap.size, 1, none⟩ = some (.int .i64 v)) (first | exact c1 | exact y1 | exact y2)
    (first
      | (go_at_call 11
         refine HP.out.mono ?_
         rintro e w1 ⟨rfl, hm, hc⟩
         have HC := Lib.hid (hc w1 (Below.refl _ _))
         have HM := Lib.hid hm
         have y1 := (HCM.out w1 (Mod.then_ ((Mod.refl _ W).drew) hm)).1
         clear hc hm)
      | (go_at_call 44
         refine HC.out.mono ?_
         rintro e w2 ⟨rfl, hs⟩
         have HS := Lib.hid (Step.after (HBW.out.drew) hs)
         have y2 := (HCS.out w2 hs).1
         clear hs))
  go_wp2
  go_ret
  exact ⟨rfl, HS.out⟩
end Go.Proofs.Ytienomdennbkpaa.He
