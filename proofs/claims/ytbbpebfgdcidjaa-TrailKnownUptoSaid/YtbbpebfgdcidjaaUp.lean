/- The walk of TrailKnown (printed by wip/tools/gen_known10.py). -/
import Derived.Test.YtbbpebfgdcidjaaUo
import Derived.Test.YtbbpebfgdcidjaaTh
import Derived.Test.YtbbpebfgdcidjaaTx
namespace Go.Proofs.Ytbbpebfgdcidjaa.Ta
open Go.RowKit Go.Proofs.Ytbbpebfgdcidjaa.Mem Go.Proofs.Ytbbpebfgdcidjaa.Sl Go.Proofs.Ytbbpebfgdcidjaa.Cl Go.Proofs.Ytbbpebfgdcidjaa.App Go.Shelf
open Go.Proofs.Ytbbpebfgdcidjaa.FnL (enc_at below_then)
set_option linter.unusedVariables false

theorem blk_here {w : World} {k : Nat} {t : TypeId} {cs : Array Value} (h : k = w.heap.size) : Blk (w.alloc (.cells cs t)) k t cs := h ▸ Blk.new w t cs
theorem rdb_blk {W : World} {B g : Nat} {t : TypeId} {vs : List Value} (h : Blk W g t vs.toArray) (hg : g < B) : RdB B W (some ⟨g, 0, none⟩) vs := fun _ =>
  ⟨g, 0, rfl, hg, fun i v hi => by rw [Nat.zero_add, h.cell i]; simpa using hi⟩
theorem StOk.up {B B' : Nat} {w : World} {s : St} (h : StOk B w s) (hB : B ≤ B') : StOk B' w s := ⟨h.kb, h.lb, h.nb, h.tl, h.mx, h.nil, Cl.RdB.up h.rd hB, h.tb⟩
theorem Sts.up {B B' : Nat} {w : World} {A : Option Addr} {n : Nat} {l : List St} (h : Sts B w A n l) (hB : B ≤ B') : Sts B' w A n l := ⟨h.ln, h.mx, fun hp => by
  obtain ⟨b, off, rfl, hx, hc⟩ := h.row hp
  exact ⟨b, off, rfl, by omega, fun i o hi => ⟨(hc i o hi).1, (hc i o hi).2.up hB⟩⟩⟩
theorem sts_row : ∀ (st : List St) (i : Nat) (s : St), st[i]? = some s → ∀ j, j < 4 → (st.flatMap St.row)[i * 4 + j]? = s.row[j]?
  | x :: st, 0, s, h, j, hj => by
    cases h
    rw [List.flatMap_cons, Nat.zero_mul, Nat.zero_add, List.getElem?_append_left (by simpa [St.row] using hj)]
  | x :: st, i + 1, s, h, j, hj => by
    rw [List.flatMap_cons, List.getElem?_append_right (by simp [St.row]; omega)]
    have := sts_row st i s (by simpa using h) j hj
    rw [← this]
    congr 1
    show (i + 1) * 4 + j - 4 = _
    omega
theorem sts_blk {W : World} {B g off k : Nat} {t : TypeId} {st : List St} (h : Blk W g t (st.flatMap St.row).toArray) (hg : g < B) (m : Nat) (ho : off = m * 4) (hk : k = ((st.drop m).take k).length) (hm : k ≤ 1000) (ha : ∀ s, s ∈ st → StOk B W s) : Sts B W (some ⟨g, off, none⟩) k ((st.drop m).take k) := by
  subst ho
  refine ⟨hk, by omega, fun _ => ⟨g, m * 4, rfl, hg, fun i s hi => ?_⟩⟩
  have hi2 : st[m + i]? = some s := by
    rw [List.getElem?_take] at hi
    split at hi
    · rwa [List.getElem?_drop] at hi
    · cases hi
  have hc : ∀ j v, j < 4 → s.row[j]? = some v → W.cell? ⟨g, (m + i) * 4 + j, none⟩ = some v := fun j v hj hv => by
    rw [h.cell _]
    simp only [List.getElem?_toArray]
    rw [sts_row st (m + i) s hi2 j hj, hv]
  rw [show m * 4 + i * 4 = (m + i) * 4 by omega]
  exact ⟨⟨hc 0 _ (by omega) rfl, hc 1 _ (by omega) rfl, hc 2 _ (by omega) rfl, hc 3 _ (by omega) rfl⟩, ha s (List.mem_of_getElem? hi2)⟩
theorem stok_to {W : World} {B g n : Nat} {k l x : Int} {tt : List Int} (h : Blk W g 3 (tt.map (Value.int .i64)).toArray) (hg : g < B) (hn : n = tt.length) (hm : n ≤ 1000)
    (hb : ((-9223372036854775808 ≤ k ∧ k ≤ 9223372036854775807) ∧ (-2147483648 ≤ l ∧ l ≤ 2147483647) ∧ (-9223372036854775808 ≤ x ∧ x ≤ 9223372036854775807)) ∧ ∀ y, y ∈ tt → -9223372036854775808 ≤ y ∧ y ≤ 9223372036854775807) : StOk B W ⟨k, l, x, some ⟨g, 0, none⟩, n, n, tt⟩ :=
  ⟨hb.1.1, hb.1.2.1, hb.1.2.2, hn, by show n ≤ _; omega, fun h => (by cases h), rdb_blk h hg, hb.2⟩
theorem stok_nil {W : World} {B : Nat} {k l x : Int} (hb : (-9223372036854775808 ≤ k ∧ k ≤ 9223372036854775807) ∧ (-2147483648 ≤ l ∧ l ≤ 2147483647) ∧ (-9223372036854775808 ≤ x ∧ x ≤ 9223372036854775807)) : StOk B W ⟨k, l, x, none, 0, 0, []⟩ :=
  ⟨hb.1, hb.2.1, hb.2.2, rfl, Nat.zero_le _, fun _ => rfl, fun hp => absurd hp (by simp), fun y h => by cases h⟩
set_option maxRecDepth 100000 in
set_option maxHeartbeats 8000000 in
theorem known_any (w : World) :
    Calls Try.prog 6 #[] w fun e w' => e = .returned (.bool true) ∧ Below w.heap.size w w' := by
  go_enter Try.func6, Try.ntmps6
  go_wp2_with fail
  obtain ⟨W, haW⟩ : ∃ W, W = (((((((w.alloc (Obj.cells #[Value.int IntKind.i64 0, Value.int IntKind.i64 1, Value.int IntKind.i64 2, Value.int IntKind.i64 3, Value.int IntKind.i64 4, Value.int IntKind.i64 5, Value.int IntKind.i64 6, Value.int IntKind.i64 3] 3)).alloc (Obj.cells #[Value.int IntKind.i64 0, Value.int IntKind.i64 1, Value.int IntKind.i64 2, Value.int IntKind.i64 (-1)] 3)).alloc (Obj.cells #[Value.int IntKind.i64 0, Value.int IntKind.i64 1, Value.int IntKind.i64 2] 3)).alloc (Obj.cells #[Value.int IntKind.i64 5, Value.int IntKind.i64 5, Value.int IntKind.i64 5, Value.int IntKind.i64 0] 3)).alloc (Obj.cells #[Value.int IntKind.i64 1] 3)).alloc (Obj.cells #[Value.int IntKind.i64 2, Value.int IntKind.i32 1, Value.int IntKind.i64 (-1), Value.slice none 0 0, Value.int IntKind.i64 0, Value.int IntKind.i32 (-2), Value.int IntKind.i64 0, Value.slice none 0 0, Value.int IntKind.i64 2, Value.int IntKind.i32 3, Value.int IntKind.i64 7, Value.slice none 0 0, Value.int IntKind.i64 5, Value.int IntKind.i32 0, Value.int IntKind.i64 0, Value.slice none 0 0, Value.int IntKind.i64 5, Value.int IntKind.i32 0, Value.int IntKind.i64 0, Value.slice none 0 0, Value.int IntKind.i64 2, Value.int IntKind.i32 2, Value.int IntKind.i64 5, Value.slice none 0 0, Value.int IntKind.i64 0, Value.int IntKind.i32 4, Value.int IntKind.i64 0, Value.slice none 0 0, Value.int IntKind.i64 2, Value.int IntKind.i32 1, Value.int IntKind.i64 (-2), Value.slice none 0 0, Value.int IntKind.i64 2, Value.int IntKind.i32 9, Value.int IntKind.i64 (-2), Value.slice none 0 0, Value.int IntKind.i64 4, Value.int IntKind.i32 0, Value.int IntKind.i64 2, Value.slice none 0 0, Value.int IntKind.i64 4, Value.int IntKind.i32 0, Value.int IntKind.i64 (-1), Value.slice none 0 0, Value.int IntKind.i64 4, Value.int IntKind.i32 0, Value.int IntKind.i64 1, Value.slice none 0 0, Value.int IntKind.i64 6, Value.int IntKind.i32 0, Value.int IntKind.i64 0, Value.slice (some { block := w.heap.size, off := 0 }) 8 8, Value.int IntKind.i64 6, Value.int IntKind.i32 0, Value.int IntKind.i64 0, Value.slice (some { block := w.heap.size + 1, off := 0 }) 4 4, Value.int IntKind.i64 6, Value.int IntKind.i32 0, Value.int IntKind.i64 0, Value.slice (some { block := w.heap.size + 1 + 1, off := 0 }) 3 3, Value.int IntKind.i64 6, Value.int IntKind.i32 0, Value.int IntKind.i64 0, Value.slice (some { block := w.heap.size + 1 + 1 + 1, off := 0 }) 4 4, Value.int IntKind.i64 5, Value.int IntKind.i32 0, Value.int IntKind.i64 0, Value.slice none 0 0, Value.int IntKind.i64 5, Value.int IntKind.i32 0, Value.int IntKind.i64 0, Value.slice none 0 0, Value.int IntKind.i64 4, Value.int IntKind.i32 0, Value.int IntKind.i64 0, Value.slice none 0 0, Value.int IntKind.i64 5, Value.int IntKind.i32 0, Value.int IntKind.i64 0, Value.slice none 0 0, Value.int IntKind.i64 0, Value.int IntKind.i32 3, Value.int IntKind.i64 0, Value.slice none 0 0, Value.int IntKind.i64 0, Value.int IntKind.i32 2, Value.int IntKind.i64 0, Value.slice none 0 0, Value.int IntKind.i64 4, Value.int IntKind.i32 0, Value.int IntKind.i64 1, Value.slice none 0 0, Value.int IntKind.i64 0, Value.int IntKind.i32 (-2), Value.int IntKind.i64 0, Value.slice none 0 0, Value.int IntKind.i64 4, Value.int IntKind.i32 0, Value.int IntKind.i64 0, Value.slice none 0 0, Value.int IntKind.i64 6, Value.int IntKind.i32 0, Value.int IntKind.i64 0, Value.slice none 0 0, Value.int IntKind.i64 0, Value.int IntKind.i32 (-2147483648), Value.int IntKind.i64 0, Value.slice none 0 0, Value.int IntKind.i64 0, Value.int IntKind.i32 0, Value.int IntKind.i64 0, Value.slice none 0 0, Value.int IntKind.i64 2, Value.int IntKind.i32 (-3), Value.int IntKind.i64 9223372036854775807, Value.slice none 0 0, Value.int IntKind.i64 6, Value.int IntKind.i32 0, Value.int IntKind.i64 0, Value.slice (some { block := w.heap.size + 1 + 1 + 1 + 1, off := 0 }) 1 1] 33)).alloc (Obj.cells #[Value.int IntKind.i64 (-1), Value.int IntKind.i64 0, Value.int IntKind.i64 1, Value.int IntKind.i64 2, Value.int IntKind.i64 3, Value.int IntKind.i64 4, Value.int IntKind.i64 8, Value.int IntKind.i64 1048576, Value.int IntKind.i64 1048577] 3)) := ⟨_, rfl⟩
  rw [← haW]
  have has : W.heap.size = w.heap.size + 7 := by rw [haW]; simp
  have HaB := Lib.hid (show Below w.heap.size w W by
    rw [haW]
    exact (((((((Below.refl _ w).alloc (Nat.le_refl _) _).alloc (by simp) _).alloc (by simp; omega) _).alloc (by simp; omega) _).alloc (by simp; omega) _).alloc (by simp; omega) _).alloc (by simp; omega) _)
  obtain ⟨st, hst⟩ : ∃ st : List St, st = [⟨2, 1, (-1), none, 0, 0, []⟩, ⟨0, (-2), 0, none, 0, 0, []⟩, ⟨2, 3, 7, none, 0, 0, []⟩, ⟨5, 0, 0, none, 0, 0, []⟩, ⟨5, 0, 0, none, 0, 0, []⟩, ⟨2, 2, 5, none, 0, 0, []⟩, ⟨0, 4, 0, none, 0, 0, []⟩, ⟨2, 1, (-2), none, 0, 0, []⟩, ⟨2, 9, (-2), none, 0, 0, []⟩, ⟨4, 0, 2, none, 0, 0, []⟩, ⟨4, 0, (-1), none, 0, 0, []⟩, ⟨4, 0, 1, none, 0, 0, []⟩, ⟨6, 0, 0, some ⟨w.heap.size, 0, none⟩, 8, 8, [0, 1, 2, 3, 4, 5, 6, 3]⟩, ⟨6, 0, 0, some ⟨w.heap.size + 1, 0, none⟩, 4, 4, [0, 1, 2, -1]⟩, ⟨6, 0, 0, some ⟨w.heap.size + 1 + 1, 0, none⟩, 3, 3, [0, 1, 2]⟩, ⟨6, 0, 0, some ⟨w.heap.size + 1 + 1 + 1, 0, none⟩, 4, 4, [5, 5, 5, 0]⟩, ⟨5, 0, 0, none, 0, 0, []⟩, ⟨5, 0, 0, none, 0, 0, []⟩, ⟨4, 0, 0, none, 0, 0, []⟩, ⟨5, 0, 0, none, 0, 0, []⟩, ⟨0, 3, 0, none, 0, 0, []⟩, ⟨0, 2, 0, none, 0, 0, []⟩, ⟨4, 0, 1, none, 0, 0, []⟩, ⟨0, (-2), 0, none, 0, 0, []⟩, ⟨4, 0, 0, none, 0, 0, []⟩, ⟨6, 0, 0, none, 0, 0, []⟩, ⟨0, (-2147483648), 0, none, 0, 0, []⟩, ⟨0, 0, 0, none, 0, 0, []⟩, ⟨2, (-3), 9223372036854775807, none, 0, 0, []⟩, ⟨6, 0, 0, some ⟨w.heap.size + 1 + 1 + 1 + 1, 0, none⟩, 1, 1, [1]⟩] := ⟨_, rfl⟩
  have HSO := Lib.hid (show ∀ s, s ∈ st → StOk W.heap.size W s by rw [hst]; exact (by intro z hz; rcases List.mem_cons.1 hz with rfl | hz; exact (stok_nil (by decide)); rcases List.mem_cons.1 hz with rfl | hz; exact (stok_nil (by decide)); rcases List.mem_cons.1 hz with rfl | hz; exact (stok_nil (by decide)); rcases List.mem_cons.1 hz with rfl | hz; exact (stok_nil (by decide)); rcases List.mem_cons.1 hz with rfl | hz; exact (stok_nil (by decide)); rcases List.mem_cons.1 hz with rfl | hz; exact (stok_nil (by decide)); rcases List.mem_cons.1 hz with rfl | hz; exact (stok_nil (by decide)); rcases List.mem_cons.1 hz with rfl | hz; exact (stok_nil (by decide)); rcases List.mem_cons.1 hz with rfl | hz; exact (stok_nil (by decide)); rcases List.mem_cons.1 hz with rfl | hz; exact (stok_nil (by decide)); rcases List.mem_cons.1 hz with rfl | hz; exact (stok_nil (by decide)); rcases List.mem_cons.1 hz with rfl | hz; exact (stok_nil (by decide)); rcases List.mem_cons.1 hz with rfl | hz; exact (stok_to (by rw [haW]; repeat (first | exact blk_here (by simp) | refine Blk.alloc ?_ _)) (by omega) rfl (by decide) (by decide)); rcases List.mem_cons.1 hz with rfl | hz; exact (stok_to (by rw [haW]; repeat (first | exact blk_here (by simp) | refine Blk.alloc ?_ _)) (by omega) rfl (by decide) (by decide)); rcases List.mem_cons.1 hz with rfl | hz; exact (stok_to (by rw [haW]; repeat (first | exact blk_here (by simp) | refine Blk.alloc ?_ _)) (by omega) rfl (by decide) (by decide)); rcases List.mem_cons.1 hz with rfl | hz; exact (stok_to (by rw [haW]; repeat (first | exact blk_here (by simp) | refine Blk.alloc ?_ _)) (by omega) rfl (by decide) (by decide)); rcases List.mem_cons.1 hz with rfl | hz; exact (stok_nil (by decide)); rcases List.mem_cons.1 hz with rfl | hz; exact (stok_nil (by decide)); rcases List.mem_cons.1 hz with rfl | hz; exact (stok_nil (by decide)); rcases List.mem_cons.1 hz with rfl | hz; exact (stok_nil (by decide)); rcases List.mem_cons.1 hz with rfl | hz; exact (stok_nil (by decide)); rcases List.mem_cons.1 hz with rfl | hz; exact (stok_nil (by decide)); rcases List.mem_cons.1 hz with rfl | hz; exact (stok_nil (by decide)); rcases List.mem_cons.1 hz with rfl | hz; exact (stok_nil (by decide)); rcases List.mem_cons.1 hz with rfl | hz; exact (stok_nil (by decide)); rcases List.mem_cons.1 hz with rfl | hz; exact (stok_nil (by decide)); rcases List.mem_cons.1 hz with rfl | hz; exact (stok_nil (by decide)); rcases List.mem_cons.1 hz with rfl | hz; exact (stok_nil (by decide)); rcases List.mem_cons.1 hz with rfl | hz; exact (stok_nil (by decide)); rcases List.mem_cons.1 hz with rfl | hz; exact (stok_to (by rw [haW]; repeat (first | exact blk_here (by simp) | refine Blk.alloc ?_ _)) (by omega) rfl (by decide) (by decide)); cases hz))
  have HTN := Lib.hid (show ∀ s, s ∈ st → s.tn ≤ 1048576 by rw [hst]; exact (by intro z hz; rcases List.mem_cons.1 hz with rfl | hz; exact (Nat.le_of_ble_eq_true rfl); rcases List.mem_cons.1 hz with rfl | hz; exact (Nat.le_of_ble_eq_true rfl); rcases List.mem_cons.1 hz with rfl | hz; exact (Nat.le_of_ble_eq_true rfl); rcases List.mem_cons.1 hz with rfl | hz; exact (Nat.le_of_ble_eq_true rfl); rcases List.mem_cons.1 hz with rfl | hz; exact (Nat.le_of_ble_eq_true rfl); rcases List.mem_cons.1 hz with rfl | hz; exact (Nat.le_of_ble_eq_true rfl); rcases List.mem_cons.1 hz with rfl | hz; exact (Nat.le_of_ble_eq_true rfl); rcases List.mem_cons.1 hz with rfl | hz; exact (Nat.le_of_ble_eq_true rfl); rcases List.mem_cons.1 hz with rfl | hz; exact (Nat.le_of_ble_eq_true rfl); rcases List.mem_cons.1 hz with rfl | hz; exact (Nat.le_of_ble_eq_true rfl); rcases List.mem_cons.1 hz with rfl | hz; exact (Nat.le_of_ble_eq_true rfl); rcases List.mem_cons.1 hz with rfl | hz; exact (Nat.le_of_ble_eq_true rfl); rcases List.mem_cons.1 hz with rfl | hz; exact (Nat.le_of_ble_eq_true rfl); rcases List.mem_cons.1 hz with rfl | hz; exact (Nat.le_of_ble_eq_true rfl); rcases List.mem_cons.1 hz with rfl | hz; exact (Nat.le_of_ble_eq_true rfl); rcases List.mem_cons.1 hz with rfl | hz; exact (Nat.le_of_ble_eq_true rfl); rcases List.mem_cons.1 hz with rfl | hz; exact (Nat.le_of_ble_eq_true rfl); rcases List.mem_cons.1 hz with rfl | hz; exact (Nat.le_of_ble_eq_true rfl); rcases List.mem_cons.1 hz with rfl | hz; exact (Nat.le_of_ble_eq_true rfl); rcases List.mem_cons.1 hz with rfl | hz; exact (Nat.le_of_ble_eq_true rfl); rcases List.mem_cons.1 hz with rfl | hz; exact (Nat.le_of_ble_eq_true rfl); rcases List.mem_cons.1 hz with rfl | hz; exact (Nat.le_of_ble_eq_true rfl); rcases List.mem_cons.1 hz with rfl | hz; exact (Nat.le_of_ble_eq_true rfl); rcases List.mem_cons.1 hz with rfl | hz; exact (Nat.le_of_ble_eq_true rfl); rcases List.mem_cons.1 hz with rfl | hz; exact (Nat.le_of_ble_eq_true rfl); rcases List.mem_cons.1 hz with rfl | hz; exact (Nat.le_of_ble_eq_true rfl); rcases List.mem_cons.1 hz with rfl | hz; exact (Nat.le_of_ble_eq_true rfl); rcases List.mem_cons.1 hz with rfl | hz; exact (Nat.le_of_ble_eq_true rfl); rcases List.mem_cons.1 hz with rfl | hz; exact (Nat.le_of_ble_eq_true rfl); rcases List.mem_cons.1 hz with rfl | hz; exact (Nat.le_of_ble_eq_true rfl); cases hz))
  have HBK := Lib.hid (show Blk W (w.heap.size + 1 + 1 + 1 + 1 + 1) 33 (st.flatMap St.row).toArray by rw [hst]; exact (by rw [haW]; repeat (first | exact blk_here (by simp) | refine Blk.alloc ?_ _)))
  have HVS := Lib.hid (show Blk W (w.heap.size + 1 + 1 + 1 + 1 + 1 + 1) 3 #[Value.int IntKind.i64 (-1), Value.int IntKind.i64 0, Value.int IntKind.i64 1, Value.int IntKind.i64 2, Value.int IntKind.i64 3, Value.int IntKind.i64 4, Value.int IntKind.i64 8, Value.int IntKind.i64 1048576, Value.int IntKind.i64 1048577] from (by rw [haW]; repeat (first | exact blk_here (by simp) | refine Blk.alloc ?_ _)))
  obtain ⟨gr, hgr⟩ : ∃ gr, gr = w.heap.size + 1 + 1 + 1 + 1 + 1 := ⟨_, rfl⟩
  rw [← hgr] at HBK HVS ⊢
  have HGR := Lib.hid (show gr < W.heap.size by omega)
  have HR1 := Lib.hid (show Sts W.heap.size W (some ⟨gr, 0, none⟩) 30 ((st.drop 0).take 30) from sts_blk HBK.out HGR.out 0 rfl (by rw [hst]; rfl) (by decide) HSO.out)
  have HR2 := Lib.hid (show Sts W.heap.size W (some ⟨gr, 0, none⟩) 2 ((st.drop 0).take 2) from sts_blk HBK.out HGR.out 0 rfl (by rw [hst]; rfl) (by decide) HSO.out)
  have HR3 := Lib.hid (show Sts W.heap.size W (some ⟨gr, 8, none⟩) 6 ((st.drop 2).take 6) from sts_blk HBK.out HGR.out 2 rfl (by rw [hst]; rfl) (by decide) HSO.out)
  have HRC := Lib.hid (show st[2]? = some ⟨2, 3, 7, none, 0, 0, []⟩ by rw [hst]; rfl)
  have HC2 := Lib.hid (fun W2 (hb : Below W.heap.size W W2) => (show (W2.cell? ⟨gr, 8, none⟩ = some (.int .i64 2) ∧ W2.cell? ⟨gr, 9, none⟩ = some (.int .i32 3) ∧ W2.cell? ⟨gr, 10, none⟩ = some (.int .i64 7) ∧ W2.cell? ⟨gr, 11, none⟩ = some (.slice none 0 0)) from by
    have hk := HBK.out.below hb
    refine ⟨?_, ?_, ?_, ?_⟩ <;> rw [hk.cell _] <;> simp only [List.getElem?_toArray]
    · exact sts_row st 2 _ HRC.out 0 (by omega)
    · exact sts_row st 2 _ HRC.out 1 (by omega)
    · exact sts_row st 2 _ HRC.out 2 (by omega)
    · exact sts_row st 2 _ HRC.out 3 (by omega)))
  have HVC := Lib.hid (fun (W2 : World) (hb : Below W.heap.size W W2) => (HVS.out.below hb).cell)
  have HRN := Lib.hid (show StOk W.heap.size W ⟨2, 3, 7, none, 0, 0, []⟩ from HSO.out _ (List.mem_of_getElem? HRC.out))
  clear haW has hst hgr HSO HBK HVS HRC HGR
  go_loopw [42] (fun i wr => ∃ k : Nat, k ≤ 9 ∧ i = .int .i64 k ∧ Below W.heap.size W wr) (fun i _ => 9 - (intOf i).toNat)
  case atStart => exact ⟨0, Nat.zero_le _, rfl, Below.refl _ _⟩
  case round =>
    obtain ⟨k, hk, rfl, hb⟩ := hrel
    have HB := Lib.hid hb
    clear hb
    by_cases hlt : k < 9
    · have hlt' : (k : Int) < 9 := by omega
      have hk0 : (0 : Int) ≤ (k : Int) := Int.natCast_nonneg _
      obtain ⟨v, hv⟩ : ∃ v : Int, (#[Value.int IntKind.i64 (-1), Value.int IntKind.i64 0, Value.int IntKind.i64 1, Value.int IntKind.i64 2, Value.int IntKind.i64 3, Value.int IntKind.i64 4, Value.int IntKind.i64 8, Value.int IntKind.i64 1048576, Value.int IntKind.i64 1048577] : Array Value)[k]? = some (.int .i64 v) := by
        rcases (show k = 0 ∨ k = 1 ∨ k = 2 ∨ k = 3 ∨ k = 4 ∨ k = 5 ∨ k = 6 ∨ k = 7 ∨ k = 8 by omega) with rfl | rfl | rfl | rfl | rfl | rfl | rfl | rfl | rfl <;> exact ⟨_, rfl⟩
      have hc : wr.cell? ⟨gr + 1, k, none⟩ = some (.int .i64 v) := by rw [HVC.out wr HB.out k]; exact hv
      clear hv
      have HPL := Lib.hid (plays_any HB.out.size v (some ⟨gr, 0, none⟩) 30 30 _ (HR1.out.below HB.out) (fun s hs => HTN.out s (List.mem_of_mem_take hs)))
      go_wp2_with fail
      refine HPL.out.mono ?_
      rintro e w4 ⟨rfl, hb4⟩
      have HB4 := Lib.hid (below_then HB.out hb4 HB.out.size)
      clear hb4
      go_wp2
      go_roundw
      case rel => exact ⟨k + 1, by omega, by go_num, HB4.out⟩
      case measure => simp [intOf]; omega
    · have HBT := Lib.hid (tback_walk (w := wr.drew) 4 (by decide) (by decide) (some ⟨gr, 0, none⟩) 2 30 _ ((HR2.out.below HB.out.drew).up HB.out.size) (some ⟨gr, 8, none⟩) 6 28 _ ((HR3.out.below HB.out.drew).up HB.out.size))
      have HNO := Lib.hid (fun W2 (hb : Below W.heap.size W W2) => none_walk (w := W2) ⟨2, 3, 7, none, 0, 0, []⟩ ((HRN.out.below hb).up hb.size))
      obtain ⟨k0, k1, k2, k3⟩ := HC2.out wr HB.out
      clear HR1 HR2 HR3 HTN HVC HRN
      go_wp2_with fail
      go_region_held3 (fun w' => w'.cell? ⟨gr, 8, none⟩ = some (.int .i64 2) ∧ w'.cell? ⟨gr, 9, none⟩ = some (.int .i32 3) ∧ w'.cell? ⟨gr, 10, none⟩ = some (.int .i64 7) ∧ w'.cell? ⟨gr, 11, none⟩ = some (.slice none 0 0)) (first | exact ⟨k0, k1, k2, k3⟩ | exact y1 | exact y2 | exact y3)
        (first
          | (go_at_call 3
             refine HBT.out.mono ?_
             rintro e w4 ⟨rfl, hb4⟩
             have HB4 := Lib.hid (below_then HB.out.drew hb4 HB.out.size)
             have y1 := HC2.out w4 HB4.out
             clear hb4)
          | (go_at_call 5
             refine (HNO.out w4 HB4.out).mono ?_
             rintro e w5 ⟨rfl, hb5⟩
             have HB5 := Lib.hid (below_then HB4.out hb5 HB4.out.size)
             have y2 := HC2.out w5 HB5.out
             clear hb5)
          | (go_at_call 19
             refine (works_any w5).mono ?_
             rintro e w6 ⟨rfl, hb6⟩
             have HB6 := Lib.hid (below_then HB5.out hb6 HB5.out.size)
             have y3 := HC2.out w6 HB6.out
             clear hb6))
      go_wp2
      go_ret
      exact ⟨rfl, below_then HaB.out HB6.out HaB.out.size⟩
end Go.Proofs.Ytbbpebfgdcidjaa.Ta
