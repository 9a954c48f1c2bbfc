/- Queue: Size, Stamp, Order, link: what they answer and leave. Conditions: the memory, numbers below a million. -/
import Derived.Test.YtgldhnjbodmbbaaQa
import Derived.Test.YtgldhnjbodmbbaaKo
namespace Go.Proofs.Ytgldhnjbodmbbaa.Qu
open Go.RowKit Go.Proofs.Ytgldhnjbodmbbaa.Mem Go.Proofs.Ytgldhnjbodmbbaa.Sl Go.Shelf
open Go.Proofs.Ytgldhnjbodmbbaa.FnL (enc_at below_then)
set_option linter.unusedVariables false

def LZ (l : List Int) : List Value := l.map (Value.int .i64)
theorem one_LZ {l : List Int} : ∀ u ∈ LZ l, u.oneCell' = true := fun u hu => by
  obtain ⟨x, _, rfl⟩ := List.mem_map.1 hu; rfl
theorem wpAppZ {w : World} {ops : Array Oper} {rest : List Oper} {o : Oper} {a : Act} {Q : Exit → Act → World → Prop} (hgd : o.guard = none) (s x : Operand)
    (ho : o.op = .call { callee := .builtin .append, args := #[s, x], argTypes := #[29, 29] })
    (base : Nat) (A : Option Addr) (n c : Nat) (xs : List Int) (hs : a.eval s = .slice A n c) (hown : App.Own w base 3 A n c (LZ xs))
    (A2 : Option Addr) (m c2 : Nat) (news : List Int) (hx : a.eval x = .slice A2 m c2) (hl : m = news.length) (hr : RdV w A2 (LZ news)) (hnil : A2 = none → c2 = 0)
    (h63 : n + m ≤ 4000000) (hbase : base ≤ w.heap.size) (r : Nat) (hrr : n + m = r)
    (h : ∀ A' c' w', App.Own w' base 3 A' r c' (LZ (xs ++ news)) → Below base w w' → wpList Try.prog ops Q rest (a.put o.dst (.slice A' r c')) w') : wpList Try.prog ops Q (o :: rest) a w := by
  subst hrr
  obtain ⟨i0, hi⟩ := Option.isSome_iff_exists.1 (show (Try.prog.info? 3).isSome = true by kernel_rfl)
  have hz : (Try.prog.info? 3).map (fun i => (i.zero, i.size, i.bytes)) = some (some (.int .i64 0), 1, 8) := by kernel_rfl
  rw [hi] at hz
  injection hz with hz
  injection hz with hz0 hz
  injection hz with hz1 hz2
  refine App.wpList_app hgd s x 29 ho base 3 i0 (.int .i64 0) 8 Try.underlying29 hi hz0 hz1 hz2 rfl (.slice A n c) n (LZ xs) hs hown.own A2 m c2 (LZ news) hx (by simpa [LZ] using hl) hr hnil one_LZ (by unfold maxLen; omega) (by omega) hbase (fun v' w' h1 h2 => ?_)
  obtain ⟨A', c', rfl, hO⟩ := App.Own.of h1
  exact h A' c' w' (by rw [LZ, List.map_append]; exact hO) ((Mod.grown h2).below (fun i _ e => hown.block e) hbase)
theorem one_rd (w : World) (y : Int) (t : TypeId) : RdV (w.alloc (.cells #[.int .i64 y] t)) (some ⟨w.heap.size, 0, none⟩) (LZ [y]) := by
  have := (Row.new w t (LZ [y])).rd
  simpa [LZ] using this
theorem size_nil (w : World) : Calls Try.prog 23 #[.pointer none] w fun e w' => e = .returned (.int .i64 0) ∧ w = w' := by
  go_enter Try.func23, Try.ntmps23
  go_wp2
  go_ret
  exact ⟨rfl, rfl⟩
theorem size_any {w : World} {base g : Nat} {r : QR} (h : QuR w base g r) (hN : r.N ≤ 1048576) : Calls Try.prog 23 #[.pointer (some ⟨g, 0, none⟩)] w fun e w' => e = .returned (.int .i64 (r.N : Int)) ∧ w = w' := by
  have c2 : w.cell? ⟨g, 2, none⟩ = some (.slice (some ⟨r.sA, 0, none⟩) (r.N + 1) r.sc) := h.blk.cell 2
  have e1 : IntKind.i64.wrap (((r.N + 1 : Nat) : Int) - 1) = (r.N : Int) := by rw [IntWalk.i64_in _ (by omega)]; omega
  have e2 : IntKind.i64.wrap ((r.N : Int) + 1 - 1) = (r.N : Int) := by rw [IntWalk.i64_in _ (by omega)]; omega
  clear h
  generalize r.N = N at *
  go_enter Try.func23, Try.ntmps23
  go_wp2
  go_ret
  exact ⟨by first | rfl | simp_all, rfl⟩
def stampI (N : Nat) (st : Nat → Int) (v : Int) : Int := if v < 1 ∨ (N : Int) < v then 0 else st v.toNat
theorem stamp_nil (v : Int) (w : World) : Calls Try.prog 13 #[.pointer none, .int .i64 v] w fun e w' => e = .returned (.int .i64 0) ∧ w = w' := by
  go_enter Try.func13, Try.ntmps13
  go_wp2
  go_ret
  exact ⟨rfl, rfl⟩
theorem stamp_any {w : World} {base g : Nat} {r : QR} (h : QuR w base g r) (hN : r.N ≤ 1048576) (v : Int) : Calls Try.prog 13 #[.pointer (some ⟨g, 0, none⟩), .int .i64 v] w fun e w' => e = .returned (.int .i64 (stampI r.N r.st v)) ∧ w = w' := by
  have c2 : w.cell? ⟨g, 2, none⟩ = some (.slice (some ⟨r.sA, 0, none⟩) (r.N + 1) r.sc) := h.blk.cell 2
  have HE := Lib.hid (show stampI r.N r.st v = if v < 1 ∨ (r.N : Int) < v then 0 else r.st v.toNat from rfl)
  by_cases h1 : v < 1
  · have HF := Lib.hid (HE.out.trans (if_pos (.inl h1)))
    clear h HE
    generalize r.N = N at *
    go_enter Try.func13, Try.ntmps13
    go_wp2
    go_ret
    exact ⟨by rw [HF.out]; rfl, rfl⟩
  · by_cases h2 : (r.N : Int) < v
    · have HF := Lib.hid (HE.out.trans (if_pos (.inr h2)))
      have h3 : (r.N : Int) + 1 ≤ v := by omega
      clear h HE
      generalize r.N = N at *
      go_enter Try.func13, Try.ntmps13
      go_wp2
      go_ret
      exact ⟨by rw [HF.out]; rfl, rfl⟩
    · have HF := Lib.hid (HE.out.trans (if_neg (fun h => h.elim h1 h2)))
      obtain ⟨k, rfl⟩ : ∃ k : Nat, v = k := ⟨v.toNat, by omega⟩
      rw [Int.toNat_natCast] at HF
      have hc : w.cell? ⟨r.sA, k, none⟩ = some (.int .i64 (r.st k)) := h.s.cell (arr_at (by omega))
      have h3 : ¬ (r.N : Int) + 1 ≤ (k : Int) := by omega
      have h4 : (k : Int) < (r.N : Int) + 1 := by omega
      have h5 : k < r.N + 1 := by omega
      have h6 : (0 : Int) ≤ (k : Int) := Int.natCast_nonneg _
      clear h HE
      generalize r.st k = x at *
      generalize stampI r.N r.st (k : Int) = y at *
      generalize r.N = N at *
      go_enter Try.func13, Try.ntmps13
      go_wp2
      go_ret
      exact ⟨by rw [HF.out]; rfl, rfl⟩
def rowI (row : List Nat) : List Int := row.map fun (v : Nat) => (v : Int)
theorem rowI_len (row : List Nat) : (rowI row).length = row.length := by simp [rowI]
theorem order_nil (w : World) : Calls Try.prog 11 #[.pointer none] w fun e w' => e = .returned (.slice none 0 0) ∧ w = w' := by
  go_enter Try.func11, Try.ntmps11
  go_wp2
  go_ret
  exact ⟨rfl, rfl⟩
def slLen : Value → Nat
  | .slice _ n _ => n
  | _ => 0
def OrdR (w : World) (row : List Nat) (e : Ending) (w' : World) : Prop := ∃ A c, e = .returned (.slice A row.length c) ∧ App.Own w' w.heap.size 3 A row.length c (LZ (rowI row))
theorem order_any {w : World} {base g : Nat} {m : QM} {r : QR} (h : QuR w base g r) (hi : Inv m r) : Calls Try.prog 11 #[.pointer (some ⟨g, 0, none⟩)] w fun e w' => OrdR w m.row e w' ∧ Below w.heap.size w w' := by
  obtain ⟨bh, ah, hb, ha, hlk⟩ := hi.lk
  have H := Lib.hid h
  have HLK := Lib.hid hlk
  have HBH := Lib.hid hb
  have HLE := Lib.hid (fun i => cyc_le (fun v hv => (hi.w.mem v).1 hv) i)
  have HC := Lib.hid (fun W (hb : Below w.heap.size w W) => (h.below hb).blk.cell 1)
  have HCB := Lib.hid (fun W (hbb : Below w.heap.size w W) (v : Nat) (hv : v ≤ r.N) => (show W.cell? ⟨r.bA, v, none⟩ = some (.int .i64 (bh v : Int)) from by
    have := (h.below hbb).b.cell (arr_at hv)
    rwa [hb] at this))
  have HNN := Lib.hid hi.N
  have hln := hi.w.len
  have hN := hi.w.N
  have HPOS := Lib.hid (fun i (hil : i < m.row.length) => ((hi.w.mem _).1 (List.getElem_mem hil)))
  have c1 : w.cell? ⟨g, 1, none⟩ = some (.slice (some ⟨r.bA, 0, none⟩) (r.N + 1) r.bc) := h.blk.cell 1
  have c0 : w.cell? ⟨r.bA, 0, none⟩ = some (.int .i64 (((cyc m.row).getD 1 0 : Nat) : Int)) := by
    have h1 := HCB.out w (Below.refl _ _) 0 (Nat.zero_le _)
    have h2 := (cyc_lk hlk (Nat.zero_le _)).1
    rw [cyc_zero] at h2
    rwa [h2] at h1
  have hz : (0 : Int) < (r.N : Int) + 1 := by omega
  clear h hi hb ha hlk
  go_enter Try.func11, Try.ntmps11
  go_wp2_with fail
  go_loopw [3, 4] (fun s v wr => ∃ (k : Nat) (A : Option Addr) (c : Nat), k ≤ m.row.length ∧ v = .int .i64 (((cyc m.row).getD (k + 1) 0 : Nat) : Int) ∧ s = .slice A k c ∧ App.Own wr w.heap.size 3 A k c (LZ (rowI (m.row.take k))) ∧ Below w.heap.size w wr) (fun s _ _ => m.row.length - slLen s)
  case atStart => exact ⟨0, none, 0, Nat.zero_le _, rfl, rfl, App.Own.nil _ _ _, Below.refl _ _⟩
  case round =>
    clear c1 c0
    obtain ⟨k, A, c, hk, rfl, rfl, hO, hb⟩ := hrel
    have HO := Lib.hid hO
    have HB := Lib.hid hb
    clear hO hb
    by_cases hlt : k < m.row.length
    · have hp := HPOS.out k hlt
      have hv := HLE.out (k + 1)
      rw [cyc_mid hlt] at hv ⊢
      have HS := Lib.hid (show rowI (m.row.take (k + 1)) = rowI (m.row.take k) ++ [((m.row[k] : Nat) : Int)] by
        unfold rowI; rw [List.take_succ_eq_append_getElem hlt, List.map_append]; rfl)
      have hbn := (cyc_lk HLK.out (i := k + 1) (by omega)).1
      rw [cyc_mid hlt] at hbn
      have c1 : ∀ W, Below w.heap.size w W → W.cell? ⟨g, 1, none⟩ = some (.slice (some ⟨r.bA, 0, none⟩) (r.N + 1) r.bc) := fun W hb => HC.out W hb
      have c0 : ∀ W, Below w.heap.size w W → W.cell? ⟨r.bA, m.row[k], none⟩ = some (.int .i64 (((cyc m.row).getD (k + 1 + 1) 0 : Nat) : Int)) := fun W hb => by
        have := HCB.out W hb m.row[k] (by rw [HNN.out]; exact hv)
        rwa [hbn] at this
      have HC1 := Lib.hid c1
      have HC0 := Lib.hid c0
      clear c1 c0 hbn
      generalize m.row[k]'hlt = v at *
      have hv0 : ((v : Int) != 0) = true := by simp; omega
      have hv1 : (v : Int) < (r.N : Int) + 1 := by rw [HNN.out]; omega
      have hv2 : v < r.N + 1 := by omega
      have hv3 : (0 : Int) ≤ (v : Int) := Int.natCast_nonneg _
      go_upto_region 5 with (at_builtin; refine wpAppZ rfl _ _ rfl w.heap.size A k c (rowI (m.row.take k)) rfl (HO.out.alloc _) (some ⟨wr.heap.size, 0, none⟩) 1 1 [(v : Int)] rfl rfl (one_rd wr (v : Int) _) (fun h => by cases h) (by omega) (by simp; have := HB.out.size; omega) (k + 1) rfl ?_; intro A3 c3 w3 hO3 hb3; have HO3 := Lib.hid hO3; have HB3 := Lib.hid (show Below w.heap.size w w3 from (HB.out.alloc HB.out.size _).trans hb3); clear hO3 hb3)
      have d1 := HC1.out w3 HB3.out
      have d0 := HC0.out w3 HB3.out
      clear HC1 HC0
      go_wp2
      go_roundw
      case rel => exact ⟨k + 1, A3, c3, by omega, rfl, rfl, by rw [HS.out]; exact HO3.out, HB3.out⟩
      case measure => simp [slLen]; omega
    · have hkL : k = m.row.length := by omega
      have HE := Lib.hid (show m.row.take k = m.row from List.take_of_length_le (by omega))
      have hz0 : (cyc m.row).getD (k + 1) 0 = 0 := by rw [hkL]; exact cyc_last _
      have HF := Lib.hid (show OrdR w m.row (.returned (.slice A k c)) wr from ⟨A, c, by rw [hkL], by rw [← hkL]; rw [HE.out] at HO; exact HO.out⟩)
      rw [hz0]
      clear hz0 hkL
      go_wp2
      go_ret
      exact ⟨HF.out, HB.out⟩
end Go.Proofs.Ytgldhnjbodmbbaa.Qu
