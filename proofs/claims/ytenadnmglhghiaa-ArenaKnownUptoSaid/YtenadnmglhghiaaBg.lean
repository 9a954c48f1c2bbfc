/- ArenaPlays: its walk. Conditions: each slice at most 1048576 long. -/
import Derived.Test.YtenadnmglhghiaaBf
import Derived.Test.YtenadnmglhghiaaRdU
namespace Go.Proofs.Ytenadnmglhghiaa.Ar
open Go.RowKit Go.Proofs.Ytenadnmglhghiaa.Mem Go.Proofs.Ytenadnmglhghiaa.Sl Go.Proofs.Ytenadnmglhghiaa.Rdr Go.Shelf
open Go.Proofs.Ytenadnmglhghiaa.FnL (enc_at below_then)
open Go.Proofs.Ytenadnmglhghiaa.Lt (Later wp_region_later)
open Go.Proofs.Ytenadnmglhghiaa.RdU (sliceU Sub at_sub)
set_option linter.unusedVariables false

/-- A call's reader, its literals' length known. -/
def stU : R StX := seq (int .i64) (seq (int .i64) (seq (sliceU (int .i32)) (seq bool (seq (int .i64) (seq bool (seq (int .i64) (seq (int .i64) unit)))))))
theorem stU_sub : Sub stU stR := Sub.seq (Sub.refl _) (Sub.seq (Sub.refl _) (Sub.seq (Sub.slice (Sub.refl _)) (Sub.refl _)))
theorem stU_ln {w : World} {cs : List Value} {x : StX} (h : stU.rel w cs x) : (stOf x).ln ≤ 1048576 := by
  obtain ⟨c1, d1, e1, _, _, r1, c2, d2, e2, _, _, r2, c3, d3, e3, _, _, ⟨_, h3⟩, _⟩ := h
  exact h3
theorem stsU_of {w : World} {A : Option Addr} {n c : Nat} {x : SlV × List StX} (h : (sliceU stU).rel w [.slice A n c] x) :
    Sts w.heap.size w A n (x.2.map stOf) ∧ n ≤ 1048576 ∧ ∀ s, s ∈ x.2.map stOf → s.ln ≤ 1048576 := by
  have h1 : (slice stR).rel w [.slice A n c] x := (Sub.slice stU_sub).2 _ _ _ h
  obtain ⟨⟨k1, k2, k3, k4, k5, k6⟩, hn⟩ := h
  injection k1 with k1 _
  injection k1 with kA kn kc
  refine ⟨sts_of h1, by rw [kn]; exact hn, fun s hs => ?_⟩
  obtain ⟨y, hy, rfl⟩ := List.mem_map.1 hs
  obtain ⟨i, hi, rfl⟩ := List.getElem_of_mem hy
  rcases hA : x.1.A with _ | a
  · have := k5 hA
    omega
  · obtain ⟨cs, _, _, hr⟩ := k6 a hA i _ (List.getElem?_eq_getElem hi)
    exact stU_ln hr
def FewR (n : Nat) (e : Ending) : Prop := ∃ b : Bool, e = .returned (.bool b) ∧ (b = true → n ≤ 50)
set_option maxRecDepth 100000 in
theorem few_any {w : World} {B : Nat} (A : Option Addr) (n c : Nat) (l : List St) (h : Sts B w A n l) (hn : n ≤ 1048576) (hl : ∀ s, s ∈ l → s.ln ≤ 1048576) :
    Calls Try.prog 19 #[.slice A n c] w fun e w' => FewR n e ∧ w = w' := by
  have H := Lib.hid h
  have HL := Lib.hid hl
  clear h hl
  go_enter Try.func19, Try.ntmps19
  go_wp2_with fail
  go_loopw [3, 4] (fun m i wr => ∃ (k : Nat) (y : Int), k ≤ n ∧ k ≤ 51 ∧ i = .int .i64 k ∧ m = .int .i64 y ∧ 0 ≤ y ∧ y ≤ k * 1048576 ∧ w = wr) (fun _ i _ => 51 - (intOf i).toNat)
  case atStart => exact ⟨0, 0, Nat.zero_le _, by omega, rfl, rfl, by omega, by omega, rfl⟩
  case round =>
    obtain ⟨k, y, hk, hk51, rfl, rfl, hy0, hy1, rfl⟩ := hrel
    by_cases hlt : k < n
    · by_cases h50 : k ≤ 50
      · have hkl : k < l.length := by have := H.out.ln; omega
        obtain ⟨b, off, eA, _, hat, hso⟩ := H.out.at_ hkl
        have d2 : w.cell? ⟨b, off + k * 8 + 2, none⟩ = some (.slice l[k].A l[k].ln l[k].lc) := hat.2.2.1
        have hln : l[k].ln ≤ 1048576 := HL.out _ (List.getElem_mem hkl)
        subst eA
        generalize l[k].A = A2 at *
        generalize l[k].ln = n2 at *
        generalize l[k].lc = c2 at *
        clear hat hso hkl
        go_wp2
        go_roundw
        case rel => exact ⟨k + 1, y + n2, by omega, by omega, by go_num, rfl, by omega, by push_cast; omega, (by first | rfl | trivial)⟩
        case measure => simp [intOf]; omega
      · go_wp2
        go_ret
        exact ⟨⟨false, rfl, fun e => by cases e⟩, rfl⟩
    · by_cases h50 : n ≤ 50
      · go_wp2
        go_ret
        exact ⟨⟨_, rfl, fun _ => h50⟩, rfl⟩
      · go_wp2
        go_ret
        exact ⟨⟨false, rfl, fun e => by cases e⟩, rfl⟩
theorem two_new {w : World} {q : AAd} {gd : Nat} {lim : Int} {w1 w2 : World} (h : AR w1 w.heap.size q lim []) (hb : Below w.heap.size w w1) (hd : RX w2 w1.heap.size (fun i => i = gd) gd lim []) (hb2 : Below w1.heap.size w1 w2) (hg : w1.heap.size ≤ gd) : Two w2 w.heap.size q.g gd lim [] :=
  ⟨q, fun i => i = gd, rfl, h.below hb2, hd.low hb.size, fun i e hi => by have := h.lt hi; omega, Nat.le_trans hb.size hb2.size⟩
set_option maxRecDepth 100000 in
set_option maxHeartbeats 2000000 in
theorem plays_walk {w : World} (lim : Int) (hlim : inI lim) (A : Option Addr) (n c : Nat) (l : List St) (h : Sts w.heap.size w A n l) (hn : n ≤ 1048576) (hl : ∀ s, s ∈ l → s.ln ≤ 1048576) :
    Calls Try.prog 4 #[.int .i64 lim, .slice A n c] w fun e w' => e = .returned (.bool true) ∧ Below w.heap.size w w' := by
  have HF := Lib.hid (few_any (c := c) A n l h hn hl)
  have H := Lib.hid h
  have HL := Lib.hid hl
  have HNA := Lib.hid (new_any lim hlim w)
  have HND := Lib.hid (fun W => rnew_any lim hlim W)
  clear h hl
  go_enter Try.func4, Try.ntmps4
  go_wp2_with fail
  refine HF.out.mono ?_
  rintro e w1 ⟨⟨b, rfl, hb⟩, rfl⟩
  rcases b with _ | _
  · clear hb
    go_wp2
    go_ret
    exact ⟨rfl, Below.refl _ _⟩
  have hn50 := hb rfl
  clear hb
  go_wp2_with fail
  refine HNA.out.mono ?_
  rintro e w1 ⟨q, rfl, h1, hb1⟩
  have H1 := Lib.hid h1
  have HB1 := Lib.hid hb1
  clear h1 hb1
  go_wp2_with fail
  refine (HND.out w1).mono ?_
  rintro e w2 ⟨gd, rfl, h2, hg2, hb2⟩
  have HT := Lib.hid (two_new H1.out HB1.out h2 hb2 hg2)
  have HB2 := Lib.hid (below_then HB1.out hb2 HB1.out.size)
  generalize q.g = g at *
  clear h2 hg2 hb2 H1 HB1 HNA HND HF
  go_wp2_with fail
  go_loopw [7] (fun i wr => ∃ (k : Nat) (its : List Itm), k ≤ n ∧ i = .int .i64 k ∧ its.length ≤ k ∧ Sm its ∧ Two wr w.heap.size g gd (limI lim) its ∧ Below w.heap.size w wr) (fun i _ => n - (intOf i).toNat)
  case atStart => exact ⟨0, [], Nat.zero_le _, rfl, Nat.le_refl _, fun x hx => (by cases hx), HT.out, HB2.out⟩
  case round =>
    clear HT HB2
    obtain ⟨k, its, hk, rfl, hil, hsm, hT, hb⟩ := hrel
    have HSM := Lib.hid hsm
    have HB := Lib.hid hb
    have HT := Lib.hid hT
    clear hsm hT hb
    by_cases hlt : k < n
    · have hkl : k < l.length := by have := H.out.ln; omega
      obtain ⟨b, off, eA, hbB, hat, hso⟩ := (H.out.below HB.out).at_ hkl
      have hln : l[k].ln ≤ 1048576 := HL.out _ (List.getElem_mem hkl)
      subst eA
      generalize l[k] = s at *
      clear hkl
      obtain ⟨d0, d1, d2, d3, d4, d5, d6, d7⟩ := hat
      obtain ⟨q2, S2, hq2, ha, hd, hap, hB⟩ := HT.out
      have HC := Lib.hid (one_any ha hd hap hB HSM.out (by omega) s hso hln)
      rw [hq2] at HC
      clear ha hd hap hso hq2
      go_wp2_with fail
      refine HC.out.mono ?_
      rintro e w3 ⟨rfl, ⟨its2, hil2, hsm2, hT2⟩, hb2⟩
      have HB3 := Lib.hid (HB.out.trans hb2)
      have HT2 := Lib.hid hT2
      have HSM2 := Lib.hid hsm2
      clear hT2 hsm2 hb2 d0 d1 d2 d3 d4 d5 d6 d7 HC hbB hB
      obtain ⟨q3, S3, hq3, ha, hd, hap, hB⟩ := HT2.out
      have HTL := Lib.hid (tells_any ha hd HSM2.out)
      rw [hq3] at HTL
      clear ha hd hap hB hq3
      go_wp2_with fail
      refine HTL.out.mono ?_
      rintro e w4 ⟨rfl, hb4⟩
      have HT4 := Lib.hid (HT2.out.below hb4)
      have HB4 := Lib.hid (below_then HB3.out hb4 HB3.out.size)
      clear hb4
      go_wp2
      go_roundw
      case rel => exact ⟨k + 1, its2, by omega, by go_num, by omega, HSM2.out, HT4.out, HB4.out⟩
      case measure => simp [intOf]; omega
    · have HW := Lib.hid (works_any wr)
      go_wp2_with fail
      refine HW.out.mono ?_
      rintro e w3 ⟨rfl, hb3⟩
      have HB3 := Lib.hid (below_then HB.out hb3 HB.out.size)
      clear hb3
      go_wp2
      go_ret
      exact ⟨rfl, HB3.out⟩
end Go.Proofs.Ytenadnmglhghiaa.Ar
