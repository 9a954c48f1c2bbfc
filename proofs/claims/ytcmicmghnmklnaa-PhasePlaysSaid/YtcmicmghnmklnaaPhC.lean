/- The walks of Save, Reach and New of package phase; stores of at most 1000000 variables. -/
import Derived.Test.YtcmicmghnmklnaaPhB
import Derived.BigQuiet
import Derived.Deep.RegionHeld3
namespace Go.Proofs.Ytcmicmghnmklnaa.Ph
open Go.RowKit Go.Proofs.Ytcmicmghnmklnaa.Mem Go.Proofs.Ytcmicmghnmklnaa.Sl Go.Shelf
set_option linter.unusedVariables false

/-- What a store is, addresses apart. -/
structure PM where
  saved : List Bool
  start : Bool
  tn : Int
  tv : List Int
  bn : Int
  bv : List Int
  state : Int
  turned : Int
def PV.abs (p : PV) : PM := ⟨p.saved, p.start, p.tn, p.tv, p.bn, p.bv, p.state, p.turned⟩
def putS (v : List Bool) (x : Int) : List Bool := v.set (x.natAbs - 1) (decide (0 < x))
theorem putS_len (v : List Bool) (x : Int) : (putS v x).length = v.length := by simp [putS]
theorem foldl_putS_len (l : List Int) : ∀ r, (l.foldl putS r).length = r.length := by
  induction l with
  | nil => intro r; rfl
  | cons x xs ih => intro r; rw [List.foldl_cons, ih, putS_len]
theorem foldl_snoc {α : Type} (f : α → Int → α) (r : α) (l : List Int) (k : Nat) (h : k < l.length) : (l.take (k + 1)).foldl f r = f ((l.take k).foldl f r) (l.getD k 0) := by
  rw [List.take_succ_eq_append_getElem h, List.foldl_append]
  simp [List.getD_eq_getElem?_getD, h]
theorem Ph.saved_ {w w' : World} {B g : Nat} {p : PV} (h : Ph w B g p) (hm : Mod (fun i => i = p.sb) w w') (v : List Bool) (hr : Row w' p.sb 4 (v.map Value.bool) p.scap) (hv : v.length = p.saved.length) : Ph w' B g { p with saved := v } := by
  have h1 : g ≠ p.sb := fun e => (h.row.ne_blk h.blk (by decide)) e.symm
  have h3 : ∀ i cs, Blk w i 67 cs → ¬ i = p.sb := fun i cs hc e => (h.row.ne_blk hc (by decide)) e.symm
  have hb := h.blk.mod hm h1
  refine ⟨?_, hr, h.bg, h.bs, ?_, ?_, by rw [hv]; exact h.len, h.st0, h.st1, h.tu0, h.tn0, h.bn0⟩
  · unfold PhC at hb ⊢; rw [hv]; exact hb
  · rw [hv]; exact h.t.mod hm (fun g _ cs hc => h3 g cs hc)
  · rw [hv]; exact h.b.mod hm (fun g _ cs hc => h3 g cs hc)
def saveM (m : PM) (l : List Int) : PM := if mayB m.saved.length l then { m with saved := l.foldl putS m.saved } else m
theorem mod_rd {S : Nat → Prop} {w w' : World} {a : Option Addr} {l : List Int} (h : RdV w a (l.map (Value.int .i32))) (hm : Mod S w w') (hS : 0 < l.length → ∀ b off, a = some ⟨b, off, none⟩ → ¬ S b) : RdV w' a (l.map (Value.int .i32)) :=
  fun hp => h.mod hm (hS (by simpa using hp)) hp
def noE (b : Bool) : Int := if b then 0 else 2
set_option maxRecDepth 100000 in
theorem save_any {w : World} {B g : Nat} {p : PV} (h : Ph w B g p) (a : Option Addr) (cap : Nat) (l : List Int) (n : Nat) (hn : n = l.length) (hm : n ≤ 140737488351232) (hr : RdV w a (l.map (Value.int .i32))) (hd : 0 < l.length → ∀ b off, a = some ⟨b, off, none⟩ → ¬ b = p.sb) :
    Calls Try.prog 16 #[.pointer (some ⟨g, 0, none⟩), .slice a n cap] w fun e w' => ∃ p', e = .returned (.int .i64 (noE (mayB p.saved.length l))) ∧ Ph w' B g p' ∧ p'.abs = saveM p.abs l ∧ p'.sb = p.sb ∧ Mod (fun i => i = p.sb) w w' := by
  have HM := Lib.hid (may_any h a cap l n hn hm hr)
  have HR := Lib.hid hr
  have HN := Lib.hid hn
  have HP := Lib.hid h
  have HD := Lib.hid hd
  have hlen := h.len
  clear hr hn h hd
  by_cases hb : mayB p.saved.length l = true
  · have HF := Lib.hid (fits_of_may hb)
    have HE := Lib.hid (show noE (mayB p.saved.length l) = 0 by rw [hb]; rfl)
    have HS := Lib.hid (show saveM p.abs l = { p.abs with saved := l.foldl putS p.saved } by unfold saveM; rw [show p.abs.saved = p.saved from rfl, hb]; rfl)
    rw [hb] at HM
    clear hb
    go_enter Try.func16, Try.ntmps16
    go_wp2_with fail
    refine HM.out.mono ?_
    rintro e w1 ⟨rfl, hb1⟩
    have HB1 := Lib.hid hb1
    clear hb1
    go_wp2_with fail
    go_loopw [6, 17] (fun x i wr => ∃ k : Nat, k ≤ n ∧ i = .int .i64 k ∧ Mod (fun i => i = p.sb) w wr ∧ Row wr p.sb 4 (((l.take k).foldl putS p.saved).map Value.bool) p.scap) (fun _ i _ => n - (intOf i).toNat)
    case atStart => exact ⟨0, Nat.zero_le _, rfl, Mod.none_ HB1.out _, (HP.out.row.below HB1.out)⟩
    case round =>
      obtain ⟨k, hk, rfl, km, kr⟩ := hrel
      have L1 := Lib.hid km
      have L2 := Lib.hid kr
      by_cases hlt : k < n
      · have hkl : k < l.length := by rw [← HN.out]; exact hlt
        obtain ⟨b, off, ha, hb, hc⟩ := RdV.at_ (mod_rd HR.out km HD.out) (ints_at (k := .i32) hkl)
        subst ha
        obtain ⟨hx0, hx1, hx2⟩ := HF.out k hkl
        have HT := Lib.hid (foldl_snoc putS p.saved l k hkl)
        have HL := Lib.hid (foldl_putS_len (l.take k) p.saved)
        have c0 : wr.cell? ⟨g, 0, none⟩ = some (.slice (some ⟨p.sb, 0, none⟩) p.saved.length p.scap) := (HP.out.blk.mod km (fun e => (HP.out.row.ne_blk HP.out.blk (by decide)) e.symm)).cell 0
        generalize l.getD k 0 = x at *
        generalize hq : (l.take k).foldl putS p.saved = q at *
        clear hq
        have f1 := fun i => kr.frozen i
        have c1 : ∀ i, i < p.saved.length → wr.cell? ⟨p.sb, i, none⟩ = some (.bool (q.getD i false)) := fun i hi => kr.cell (bools_at (by rw [HL.out]; exact hi))
        have C1 := Lib.hid c1
        clear c1
        clear km kr hkl
        by_cases hp : 0 < x
        · have hmx : ¬ x < -x := by omega
          have hset := Lib.hid (show putS q x = q.set (x.toNat - 1) true by unfold putS; rw [decide_eq_true hp, show x.natAbs = x.toNat by omega])
          have c4 : wr.cell? ⟨p.sb, x.toNat - 1, none⟩ = some (.bool (q.getD (x.toNat - 1) false)) := C1.out _ (by omega)
          have f4 : wr.frozen? ⟨p.sb, x.toNat - 1, none⟩ = false := f1 _
          clear f1
          have i0 : IntKind.i32.wrap (-x) = -x := IntWalk.i32_in _ (by omega)
          have i1 : (0 : Int) ≤ x - 1 := by omega
          have i2 : x - 1 < (p.saved.length : Int) := by omega
          have i3 : IntKind.i32.wrap (x - 1) = x - 1 := IntWalk.i32_in _ (by omega)
          go_wp2
          go_roundw
          case rel =>
            refine ⟨k + 1, by omega, by go_num, L1.out.setCell (.inl rfl) _, ?_⟩
            rw [HT.out, hset.out]
            have := Row.set_ L2.out (x.toNat - 1) (by rw [List.length_map, HL.out]; omega) (.bool true)
            simpa [List.map_set] using this
          case measure => simp [intOf]; omega
        · have hmx : x < -x := by omega
          have hset := Lib.hid (show putS q x = q.set ((-x).toNat - 1) false by unfold putS; rw [decide_eq_false hp, show x.natAbs = (-x).toNat by omega])
          have c4 : wr.cell? ⟨p.sb, (-x).toNat - 1, none⟩ = some (.bool (q.getD ((-x).toNat - 1) false)) := C1.out _ (by omega)
          have f4 : wr.frozen? ⟨p.sb, (-x).toNat - 1, none⟩ = false := f1 _
          clear f1
          have i0 : IntKind.i32.wrap (-x) = -x := IntWalk.i32_in _ (by omega)
          have i1 : (0 : Int) ≤ -x - 1 := by omega
          have i2 : -x - 1 < (p.saved.length : Int) := by omega
          have i3 : IntKind.i32.wrap (-x - 1) = -x - 1 := IntWalk.i32_in _ (by omega)
          go_wp2
          go_roundw
          case rel =>
            refine ⟨k + 1, by omega, by go_num, L1.out.setCell (.inl rfl) _, ?_⟩
            rw [HT.out, hset.out]
            have := Row.set_ L2.out ((-x).toNat - 1) (by rw [List.length_map, HL.out]; omega) (.bool false)
            simpa [List.map_set] using this
          case measure => simp [intOf]; omega
      · have hkn : k = n := by omega
        have HT := Lib.hid (show l.take k = l from List.take_of_length_le (by rw [← HN.out]; omega))
        clear km kr hkn
        go_wp2
        go_ret
        rw [HT.out] at L2
        have H2 := L2.out
        refine ⟨{ p with saved := l.foldl putS p.saved }, by rw [HE.out]; rfl, HP.out.saved_ L1.out _ H2 (foldl_putS_len _ _), ?_, rfl, L1.out⟩
        rw [HS.out]; rfl
  · have hf : mayB p.saved.length l = false := by simpa using hb
    have HE := Lib.hid (show noE (mayB p.saved.length l) = 2 by rw [hf]; rfl)
    have HS := Lib.hid (show saveM p.abs l = p.abs by unfold saveM; rw [show p.abs.saved = p.saved from rfl, hf]; rfl)
    rw [hf] at HM
    clear hb hf
    go_enter Try.func16, Try.ntmps16
    go_wp2_with fail
    refine HM.out.mono ?_
    rintro e w1 ⟨rfl, hb1⟩
    have HB1 := Lib.hid hb1
    clear hb1
    go_wp2
    go_ret
    exact ⟨p, by rw [HE.out]; rfl, HP.out.below HB1.out, HS.out.symm, rfl, Mod.none_ HB1.out _⟩
end Go.Proofs.Ytcmicmghnmklnaa.Ph
