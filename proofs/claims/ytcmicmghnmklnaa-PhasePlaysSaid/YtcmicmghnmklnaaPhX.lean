/- The walk of New of the document's store. -/
import Derived.Test.YtcmicmghnmklnaaPhW
namespace Go.Proofs.Ytcmicmghnmklnaa.Ph
open Go.RowKit Go.Proofs.Ytcmicmghnmklnaa.Mem Go.Proofs.Ytcmicmghnmklnaa.Sl Go.Shelf
set_option linter.unusedVariables false

theorem rnew_bad (n : Int) (st : Bool) (seed : Int) (w : World) (hn : n < 0 ∨ 1048576 < n) :
    Calls Try.prog 18 #[.int .i64 n, .bool st, .int .u64 seed] w fun e w' => e = .returned (.tuple #[.pointer none, .int .i64 2]) ∧ w = w' := by
  by_cases h0 : n < 0
  · go_enter Try.func18, Try.ntmps18
    go_wp2
    go_ret2
    exact ⟨rfl, rfl⟩
  · have h1 : 1048576 < n := by omega
    go_enter Try.func18, Try.ntmps18
    go_wp2
    go_ret2
    exact ⟨rfl, rfl⟩
/-- A row of values that the call owns. -/
def OwnV (w : World) (base : Nat) (A : Option Addr) (k c : Nat) (st : Bool) : Prop := (k = 0 ∧ A = none ∧ c = 0) ∨ ∃ g, A = some ⟨g, 0, none⟩ ∧ base ≤ g ∧ c ≤ maxLen ∧ Row w g 4 (List.replicate k (.bool st)) c
theorem OwnV.own {w : World} {base k c : Nat} {A : Option Addr} {st : Bool} (h : OwnV w base A k c st) : w.ownsRow base 4 1 (.slice A k c) k (List.replicate k (.bool st)) := by
  rcases h with ⟨rfl, rfl, rfl⟩ | ⟨g, rfl, h1, h2, h3⟩
  · exact ⟨rfl, .inl ⟨rfl, rfl⟩⟩
  · exact h3.own h1 h2 (by simp)
theorem OwnV.of {w : World} {base k : Nat} {v : Value} {st : Bool} (h : w.ownsRow base 4 1 v (k + 1) (List.replicate (k + 1) (.bool st))) : ∃ g c, v = .slice (some ⟨g, 0, none⟩) (k + 1) c ∧ base ≤ g ∧ c ≤ maxLen ∧ Row w g 4 (List.replicate (k + 1) (.bool st)) c := by
  have h0 := h
  rcases h.2 with ⟨_, h2⟩ | ⟨g, cap, cur, rfl, h1, _, _, h4, _⟩
  · cases h2
  · obtain ⟨g', c', e, h5, h6⟩ := Row.of_own h0 (by simp)
    cases e
    exact ⟨g, cap, rfl, h1, h4, h6⟩
theorem OwnV.alloc {w : World} {base k c : Nat} {A : Option Addr} {st : Bool} (h : OwnV w base A k c st) (o : Obj) : OwnV (w.alloc o) base A k c st := by
  rcases h with h | ⟨g, h1, h2, h3, h4⟩
  · exact .inl h
  · exact .inr ⟨g, h1, h2, h3, h4.alloc o⟩
theorem OwnV.block {w : World} {base k c : Nat} {A : Option Addr} {st : Bool} (h : OwnV w base A k c st) {i : Nat} (hi : some i = (Value.slice A k c).ownBlock) : base ≤ i := by
  rcases h with ⟨_, rfl, _⟩ | ⟨g, rfl, h2, _⟩
  · cases hi
  · cases hi; exact h2
set_option maxRecDepth 100000 in
set_option maxHeartbeats 4000000 in
theorem rnew_ok (n : Nat) (st : Bool) (seed : Int) (w : World) (hn : n ≤ 1000) (h0 : 0 ≤ seed) (h1 : seed ≤ 18446744073709551615) :
    Calls Try.prog 18 #[.int .i64 n, .bool st, .int .u64 seed] w fun e w' => ∃ g r, e = .returned (.tuple #[.pointer (some ⟨g, 0, none⟩), .int .i64 0]) ∧ Rf w' w.heap.size g (newM n st seed) r ∧ Below w.heap.size w w' := by
  obtain ⟨i0, hi⟩ := Option.isSome_iff_exists.1 (show (Try.prog.info? 4).isSome = true by kernel_rfl)
  have hz : (Try.prog.info? 4).map (fun i => (i.zero, i.size, i.bytes)) = some (some (.bool false), 1, 1) := by kernel_rfl
  rw [hi] at hz
  injection hz with hz
  injection hz with hz0 hz
  injection hz with hz1 hz2
  obtain ⟨sd, hsd⟩ : ∃ sd : Int, sd = (if seed < 1 then 1 else seed) := ⟨_, rfl⟩
  have HSD := Lib.hid hsd
  have hsd0 : 0 ≤ sd ∧ sd ≤ 18446744073709551615 := by rw [hsd]; split <;> omega
  have HS0 := Lib.hid hsd0
  have HI := Lib.hid hi
  have HZ0 := Lib.hid hz0
  have HZ1 := Lib.hid hz1
  have HZ2 := Lib.hid hz2
  clear hi hz0 hz1 hz2 hsd hsd0
  go_enter Try.func18, Try.ntmps18
  go_upto_region 4 with (fail)
  rw [← HSD.out]
  obtain ⟨W, hW⟩ : ∃ W, W = w.alloc (.cells #[.slice none 0 0, .bool st, .int .i64 0, .slice none 0 0, .int .i64 0, .slice none 0 0, .int .u64 sd, .int .i64 0] 78) := ⟨_, rfl⟩
  rw [← hW]
  have k0 := Blk.new w 78 #[.slice none 0 0, .bool st, .int .i64 0, .slice none 0 0, .int .i64 0, .slice none 0 0, .int .u64 sd, .int .i64 0]
  rw [← hW] at k0
  have K0 := Lib.hid k0
  have KB := Lib.hid (show Below w.heap.size w W from hW ▸ (Below.refl _ w).alloc (Nat.le_refl _) _)
  have KZ := Lib.hid (show w.heap.size + 1 ≤ W.heap.size by rw [hW, World.size_alloc]; omega)
  clear hW k0
  generalize hz : w.heap.size = z at *
  have HZ := Lib.hid hz
  clear hz
  go_wp2_with fail
  go_loopw [9] (fun x wr => ∃ (k : Nat) (A : Option Addr) (c : Nat), k ≤ n ∧ x = .int .i64 k ∧ Blk wr z 78 #[.slice A k c, .bool st, .int .i64 0, .slice none 0 0, .int .i64 0, .slice none 0 0, .int .u64 sd, .int .i64 0] ∧ OwnV wr (z + 1) A k c st ∧ Below z w wr ∧ z + 1 ≤ wr.heap.size) (fun x _ => n - (intOf x).toNat)
  case atStart => exact ⟨0, none, 0, Nat.zero_le _, rfl, K0.out, .inl ⟨rfl, rfl, rfl⟩, KB.out, KZ.out⟩
  case round =>
    obtain ⟨k, A, c, hk, rfl, hb, ho, hbe, hsz⟩ := hrel
    have HB := Lib.hid hb
    have HO := Lib.hid ho
    have HBE := Lib.hid hbe
    have HSZ := Lib.hid hsz
    have c0 : wr.cell? ⟨z, 0, none⟩ = some (.slice A k c) := hb.cell 0
    have hzl := hb.lt
    clear hb ho hbe hsz
    by_cases hlt : k < n
    · go_wp2_with (first
        | (at_builtin; refine wpList_append_own _ rfl _ _ 42 rfl (z + 1) 4 i0 (.bool false) 1 1 Try.underlying42 HI.out HZ0.out HZ1.out HZ2.out rfl (by decide) (.slice A k c) k (List.replicate k (.bool st)) rfl (HO.out.alloc _).own ⟨wr.heap.size, 0, none⟩ 1 1 [.bool st] rfl rfl ?_ (fun u hu => by simp at hu; subst hu; rfl) (by unfold maxLen; omega) (by omega) (by rw [World.size_alloc]; have := HSZ.out; omega) ?_
           · exact fun j u hj => by
               have hn := Blk.new wr 4 #[.bool st]
               rw [Go.WideShapes.add_plain, Nat.zero_add, hn.cell j]
               simpa using hj
           intro v' w3 hown hgrow hnl
           obtain ⟨g', c', rfl, h1', h2', h3'⟩ := OwnV.of (k := k) (st := st) (by rw [List.replicate_succ']; exact hown)
           have hb3 := Blk.mod (HB.out.alloc (.cells #[.bool st] 4)) (Mod.grown hgrow) (fun e => by have := HO.out.block e; omega)
           have hbe3 : Below z w w3 := ((HBE.out.alloc (by have := HSZ.out; omega) (.cells #[.bool st] 4))).trans ((Mod.grown hgrow).below (fun i _ e => by have := HO.out.block e; omega) (by rw [World.size_alloc]; have := HSZ.out; omega))
           have c3 : w3.cell? ⟨z, 0, none⟩ = some (.slice A k c) := hb3.cell 0
           have f3 : w3.frozen? ⟨z, 0, none⟩ = false := hb3.frozen 0
           have HB3 := Lib.hid hb3
           have HBE3 := Lib.hid hbe3
           have HR3 := Lib.hid h3'
           have HM3 := Lib.hid h2'
           have HG3 := Lib.hid h1'
           clear hown hgrow hnl hb3 hbe3 h3' h2' h1'))
      go_roundw
      case rel =>
        have hne : g' ≠ z := by have := HG3.out; omega
        refine ⟨k + 1, some ⟨g', 0, none⟩, c', by omega, by go_num, ?_, .inr ⟨g', rfl, HG3.out, HM3.out, Row.far HR3.out (show g' ≠ z from hne) _⟩, HBE3.out.setCell (by simp) _, by have := HBE3.out.size; have := HR3.out.lt; have := HG3.out; simp [World.setCell]; omega⟩
        have := Blk.set_ HB3.out 0 (.slice (some ⟨g', 0, none⟩) (k + 1) c')
        simpa using this
      case measure => simp [intOf]; omega
    · have hkn : k = n := by omega
      have HT := Lib.hid hkn
      clear hkn
      go_wp2
      go_ret2
      have hm : newM n st seed = ⟨List.replicate n st, st, 0, [], 0, [], sd, 0⟩ := by unfold newM; rw [← HSD.out]
      have hbk := HB.out
      have hok := HO.out
      rw [HT.out] at hbk hok
      refine ⟨z, ⟨A, c, none, 0, [], none, 0, []⟩, rfl, ?_, by rw [HZ.out]; exact HBE.out⟩
      rw [hm, HZ.out]
      refine ⟨by simpa [RfC] using hbk, ?_, .inl ⟨rfl, rfl, rfl⟩, .inl ⟨rfl, rfl, rfl⟩, Nat.le_refl _, by simp; omega, HS0.out.1, HS0.out.2, Int.le_refl _, fun j hj => absurd hj (by simp), fun j hj => absurd hj (by simp), ?_, ?_, by simp, by simp⟩
      · rcases hok with ⟨h1, h2, h3⟩ | ⟨g', h1, h2, _, h3⟩
        · exact .inl ⟨h2, by rw [h1]; rfl, h3⟩
        · exact .inr ⟨g', h1, by omega, by simpa using h3⟩
      · intro j; simp [rowOf, List.getD_eq_getElem?_getD, List.getElem?_replicate]; split <;> simp
      · intro j; simp [rowOf, List.getD_eq_getElem?_getD, List.getElem?_replicate]; split <;> simp
end Go.Proofs.Ytcmicmghnmklnaa.Ph
