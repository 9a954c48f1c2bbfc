/- A heap: Order. Conditions: the memory. -/
import Derived.Test.YtienomdennbkpaaHn
import Derived.Laws.EntriesVeiled
namespace Go.Proofs.Ytienomdennbkpaa.He
open Go.RowKit Go.Proofs.Ytienomdennbkpaa.Mem Go.Proofs.Ytienomdennbkpaa.Sl Go.Shelf
open Go.Proofs.Ytienomdennbkpaa.FnL (enc_at below_then)
set_option linter.unusedVariables false

/-- Those of l in order. -/
def Ord (s l' l : List Int) : Prop := l'.Perm l ∧ l'.Pairwise fun a b => kf s a < kf s b
theorem Ord.uniq {s l1 l2 l l' : List Int} (h1 : Ord s l1 l) (h2 : Ord s l2 l') (h : l.Perm l') : l1 = l2 :=
  List.Perm.eq_of_pairwise (le := fun x y => kf s x < kf s y) (fun x y _ _ h1 h2 => by omega) h1.2 h2.2 (h1.1.trans (h.trans h2.1.symm))
theorem order_nil (w : World) : Calls Try.prog 12 #[.pointer none] w fun e w' => e = .returned (.slice none 0 0) ∧ w = w' := by
  go_enter Try.func12, Try.ntmps12
  go_wp2
  go_ret
  exact ⟨rfl, rfl⟩
def OrderR (w : World) (m : HM) (e : Ending) (w' : World) : Prop := (∃ A c l', e = .returned (.slice A m.l.length c) ∧ App.Own w' w.heap.size 3 A m.l.length c (LZ l') ∧ Ord m.s l' m.l) ∧ Below w.heap.size w w'
theorem val_inj {N : Nat} : ∀ {l1 l2 : List (VN N)}, l1.map Subtype.val = l2.map Subtype.val → l1 = l2
  | [], [], _ => rfl
  | [], _ :: _, h => by cases h
  | _ :: _, [], h => by cases h
  | a :: l1, b :: l2, h => by
    rw [List.map_cons, List.map_cons] at h
    injection h with h1 h2
    rw [Subtype.ext h1, val_inj h2]
theorem ord_srt {N : Nat} (hN : N ≤ 1048576) {s l : List Int} (l' : List (VN N)) (hl : l'.map Subtype.val = l) (hnd : l.Nodup) : Ord s ((srtV s l').map Subtype.val) l := by
  have hp : ((srtV s l').map Subtype.val).Perm l := by rw [← hl]; exact (srtV_perm l').map _
  refine ⟨hp, ?_⟩
  rw [List.pairwise_map]
  have hnd2 : (srtV s l').Pairwise (fun a b => a.1 ≠ b.1) := by
    have := hp.nodup_iff.2 hnd
    unfold List.Nodup at this
    rwa [List.pairwise_map] at this
  have hle := srtV_le (s := s) l'
  refine (hle.and hnd2).imp fun {a b} h => ?_
  rcases Int.lt_or_eq_of_le h.1 with h3 | h3
  · exact h3
  · exact absurd (kf_inj s ⟨a.2.1, by have := a.2.2; omega⟩ ⟨b.2.1, by have := b.2.2; omega⟩ h3) h.2
theorem order_fin {w W : World} {B N bx : Nat} {q : HA} {m : HM} (h : HR w B N q m) {A : Option Addr} {c : Nat} (hO : App.Own W w.heap.size 3 A m.l.length c (LZ m.l)) (hb : Below w.heap.size w W)
    (hc : W.cell? ⟨bx, 0, none⟩ = some (bv q)) (hne : ∀ i, A = some ⟨i, 0, none⟩ → i ≠ bx) :
    Calls Try.prog 35 #[.slice A m.l.length c, cv bx] W fun e w' => e = .returned (.tuple #[]) ∧ (∃ l', App.Own w' w.heap.size 3 A m.l.length c (LZ l') ∧ Ord m.s l' m.l) ∧ Below w.heap.size w w' := by
  have hN := h.hN
  have hl := h.lenN
  by_cases h0 : m.l.length = 0
  · have hnil : m.l = [] := List.eq_nil_of_length_eq_zero h0
    rw [hnil] at hO ⊢
    exact (sort_none (bx := bx) hO).mono fun e w' ⟨he, hw⟩ => ⟨he, ⟨[], hw ▸ hO, List.Perm.refl _, List.Pairwise.nil⟩, hw ▸ hb⟩
  · obtain ⟨g, rfl, hg, hr⟩ := hO.row (by omega)
    obtain ⟨l', hl'⟩ := lift_list (N := N) m.l h.ord.rg
    have hO2 : App.Own W w.heap.size 3 (some ⟨g, 0, none⟩) m.l.length c (l'.map encV) := by rw [← LZ_val, hl']; exact hO
    refine (sort_any hO2 (by omega) (h.below hb) hc (hne g rfl) (fun hm => by have := (h.lt hm).2; omega)).mono fun e w' ⟨he, k1, k2⟩ => ⟨he, ⟨(srtV m.s l').map Subtype.val, by rw [LZ_val]; exact k1, ord_srt hN l' hl' h.ord.nd⟩, Below.then_mod hb k2 (fun i hi e => by omega) (Nat.le_refl _)⟩
set_option maxRecDepth 100000 in
set_option maxHeartbeats 4000000 in
theorem order_any {w : World} {B N : Nat} {q : HA} {m : HM} (h : HR w B N q m) :
    Calls Try.prog 12 #[.pointer (some ⟨q.g, 0, none⟩)] w (OrderR w m) := by
  have hN := h.hN
  have hl := h.lenN
  have c0 : w.cell? ⟨q.g, 0, none⟩ = some (.slice q.iA m.l.length q.ic) := h.blk.cell 0
  have hgw := h.blk.lt
  have HS := Lib.hid (fun W (hb : Below w.heap.size w W) => (show W.cell? ⟨q.g, 0, none⟩ = some (.slice q.iA m.l.length q.ic) from (h.below hb).blk.cell 0))
  have HA := Lib.hid (fun W (hb : Below w.heap.size w W) => clone_int (w := W) q.iA m.l.length q.ic (LZ m.l) (LZ_len _).symm ((h.below hb).inn.rd) one_LZ (by omega))
  have HI := Lib.hid h
  have B0 := Lib.hid (show Below w.heap.size w w.drew from (Below.refl _ _).drew)
  have B1 := Lib.hid (fun o => show Below w.heap.size w (w.alloc o).drew from ((Below.refl _ _).alloc (Nat.le_refl _) o).drew)
  have HK := Lib.hid (fun (v : Value) W (hb : Below (w.alloc (.cells #[v] 63)).drew.heap.size (w.alloc (.cells #[v] 63)).drew W) => show W.cell? ⟨w.heap.size, 0, none⟩ = some v ∧ W.frozen? ⟨w.heap.size, 0, none⟩ = false from
    ⟨(((Blk.new w 63 #[v]).drew).below hb).cell 0, (((Blk.new w 63 #[v]).drew).below hb).frozen 0⟩)
  clear h
  generalize hL : m.l.length = L at *
  have HLL := Lib.hid hL
  clear hL
  go_enter Try.func12, Try.ntmps12
  go_wp2_with fail
  go_region_held3 (fun W => W.cell? ⟨q.g, 0, none⟩ = some (.slice q.iA L q.ic)) (first | exact c0 | exact yA | exact HS.out _ (B1.out _) | exact HS.out _ (BA.out.alloc BA.out.size _) | exact HS.out _ (BA.out.setCell (Nat.le_refl _) _) | exact HS.out _ ((BA.out.alloc BA.out.size _).setCell BA.out.size _))
    (first
      | (go_at_call 33
         refine (HA.out w.drew B0.out).mono ?_
         rintro e wA ⟨⟨AA, cA, rfl, hO⟩, hb⟩
         have OA := Lib.hid hO
         have RA := Lib.hid hb
         have BA := Lib.hid (below_then B0.out hb B0.out.size)
         have yA := HS.out wA BA.out
         clear hO hb)
      | (go_at_call 33
         refine (HA.out _ (B1.out _)).mono ?_
         rintro e wA ⟨⟨AA, cA, rfl, hO⟩, hb⟩
         have OA := Lib.hid hO
         have RA := Lib.hid hb
         have BA := Lib.hid (below_then (B1.out _) hb (B1.out _).size)
         have yA := HS.out wA BA.out
         have kB := HK.out _ _ hb
         obtain ⟨k1, k2⟩ := kB
         clear hO hb))
  · have HF := Lib.hid (order_fin (bx := wA.heap.size) HI.out (A := AA) (c := cA) (HLL.out ▸ OA.out.alloc (.cells #[bv q] 63)) (BA.out.alloc BA.out.size _) ((Blk.new wA 63 #[bv q]).cell 0) (fun i e => by have := (own_lt OA.out e).2; omega))
    rw [HLL.out] at HF
    clear HA HK HS OA RA BA c0 B0 B1
    go_wp2_with fail
    refine HF.out.mono ?_
    rintro e w5 ⟨rfl, ⟨l', k1, k2⟩, k3⟩
    have HFF := Lib.hid (show OrderR w m (.returned (.slice AA L cA)) w5 from ⟨⟨AA, cA, l', by rw [HLL.out], by rw [HLL.out]; exact k1, k2⟩, k3⟩)
    clear HF k1 k2 k3
    go_wp2
    go_ret
    exact HFF.out
  · have HF := Lib.hid (order_fin (bx := wA.heap.size) HI.out (A := AA) (c := cA) (HLL.out ▸ OA.out.alloc (.cells #[bv q] 63)) (BA.out.alloc BA.out.size _) ((Blk.new wA 63 #[bv q]).cell 0) (fun i e => by have := (own_lt OA.out e).2; omega))
    rw [HLL.out] at HF
    clear HA HK HS OA RA BA c0 B0 B1
    go_wp2_with fail
    refine HF.out.mono ?_
    rintro e w5 ⟨rfl, ⟨l', k1, k2⟩, k3⟩
    have HFF := Lib.hid (show OrderR w m (.returned (.slice AA L cA)) w5 from ⟨⟨AA, cA, l', by rw [HLL.out], by rw [HLL.out]; exact k1, k2⟩, k3⟩)
    clear HF k1 k2 k3
    go_wp2
    go_ret
    exact HFF.out
  · have HF := Lib.hid (order_fin (bx := wA.heap.size) HI.out (A := AA) (c := cA) (HLL.out ▸ OA.out.alloc (.cells #[bv q] 63)) (BA.out.alloc BA.out.size _) ((Blk.new wA 63 #[bv q]).cell 0) (fun i e => by have := (own_lt OA.out e).2; omega))
    rw [HLL.out] at HF
    clear HA HK HS OA RA BA c0 B0 B1
    go_wp2_with fail
    refine HF.out.mono ?_
    rintro e w5 ⟨rfl, ⟨l', k1, k2⟩, k3⟩
    have HFF := Lib.hid (show OrderR w m (.returned (.slice AA L cA)) w5 from ⟨⟨AA, cA, l', by rw [HLL.out], by rw [HLL.out]; exact k1, k2⟩, k3⟩)
    clear HF k1 k2 k3
    go_wp2
    go_ret
    exact HFF.out
  · have hmd : Mod (fun j => j = w.heap.size) wA (wA.setCell ⟨w.heap.size, 0, none⟩ (bv q)) := Mod.setCell (S := fun j => j = w.heap.size) (Mod.refl _ _) (p := ⟨w.heap.size, 0, none⟩) (.inl rfl) _
    have hbs : (w.alloc (.cells #[Value.nilFunc] 63)).drew.heap.size = w.heap.size + 1 := World.size_alloc _ _
    have HF := Lib.hid (order_fin (bx := w.heap.size) HI.out (A := AA) (c := cA) (HLL.out ▸ (OA.out.mod hmd (fun i hi _ => by rw [hbs] at hi; omega)).low (by rw [hbs]; omega)) (BA.out.setCell (Nat.le_refl _) _) (World.cell?_setCell_same _ _ _ k1) (fun i e => by have := (own_lt OA.out e).1; rw [hbs] at this; omega))
    rw [HLL.out] at HF
    clear HA HK HS OA RA BA c0 B0 B1 hbs hmd k1 k2
    go_wp2_with fail
    refine HF.out.mono ?_
    rintro e w5 ⟨rfl, ⟨l', k1, k2⟩, k3⟩
    have HFF := Lib.hid (show OrderR w m (.returned (.slice AA L cA)) w5 from ⟨⟨AA, cA, l', by rw [HLL.out], by rw [HLL.out]; exact k1, k2⟩, k3⟩)
    clear HF k1 k2 k3
    go_wp2
    go_ret
    exact HFF.out
  · have hmd : Mod (fun j => j = w.heap.size) wA (wA.setCell ⟨w.heap.size, 0, none⟩ (bv q)) := Mod.setCell (S := fun j => j = w.heap.size) (Mod.refl _ _) (p := ⟨w.heap.size, 0, none⟩) (.inl rfl) _
    have hbs : (w.alloc (.cells #[Value.nilFunc] 63)).drew.heap.size = w.heap.size + 1 := World.size_alloc _ _
    have HF := Lib.hid (order_fin (bx := w.heap.size) HI.out (A := AA) (c := cA) (HLL.out ▸ (OA.out.mod hmd (fun i hi _ => by rw [hbs] at hi; omega)).low (by rw [hbs]; omega)) (BA.out.setCell (Nat.le_refl _) _) (World.cell?_setCell_same _ _ _ k1) (fun i e => by have := (own_lt OA.out e).1; rw [hbs] at this; omega))
    rw [HLL.out] at HF
    clear HA HK HS OA RA BA c0 B0 B1 hbs hmd k1 k2
    go_wp2_with fail
    refine HF.out.mono ?_
    rintro e w5 ⟨rfl, ⟨l', k1, k2⟩, k3⟩
    have HFF := Lib.hid (show OrderR w m (.returned (.slice AA L cA)) w5 from ⟨⟨AA, cA, l', by rw [HLL.out], by rw [HLL.out]; exact k1, k2⟩, k3⟩)
    clear HF k1 k2 k3
    go_wp2
    go_ret
    exact HFF.out
  · have hmd : Mod (fun j => j = w.heap.size) wA (wA.setCell ⟨w.heap.size, 0, none⟩ (bv q)) := Mod.setCell (S := fun j => j = w.heap.size) (Mod.refl _ _) (p := ⟨w.heap.size, 0, none⟩) (.inl rfl) _
    have hbs : (w.alloc (.cells #[Value.nilFunc] 63)).drew.heap.size = w.heap.size + 1 := World.size_alloc _ _
    have HF := Lib.hid (order_fin (bx := w.heap.size) HI.out (A := AA) (c := cA) (HLL.out ▸ (OA.out.mod hmd (fun i hi _ => by rw [hbs] at hi; omega)).low (by rw [hbs]; omega)) (BA.out.setCell (Nat.le_refl _) _) (World.cell?_setCell_same _ _ _ k1) (fun i e => by have := (own_lt OA.out e).1; rw [hbs] at this; omega))
    rw [HLL.out] at HF
    clear HA HK HS OA RA BA c0 B0 B1 hbs hmd k1 k2
    go_wp2_with fail
    refine HF.out.mono ?_
    rintro e w5 ⟨rfl, ⟨l', k1, k2⟩, k3⟩
    have HFF := Lib.hid (show OrderR w m (.returned (.slice AA L cA)) w5 from ⟨⟨AA, cA, l', by rw [HLL.out], by rw [HLL.out]; exact k1, k2⟩, k3⟩)
    clear HF k1 k2 k3
    go_wp2
    go_ret
    exact HFF.out
end Go.Proofs.Ytienomdennbkpaa.He
