/- TrailPlays: the walk: it answers true. Conditions: the memory, rows of at most a million numbers. -/
import Derived.Test.YtbbpebfgdcidjaaUm
namespace Go.Proofs.Ytbbpebfgdcidjaa.Ta
open Go.RowKit Go.Proofs.Ytbbpebfgdcidjaa.Mem Go.Proofs.Ytbbpebfgdcidjaa.Sl Go.Proofs.Ytbbpebfgdcidjaa.Cl Go.Proofs.Ytbbpebfgdcidjaa.App Go.Shelf
open Go.Proofs.Ytbbpebfgdcidjaa.FnL (enc_at below_then)
set_option linter.unusedVariables false

set_option maxRecDepth 100000 in
theorem plays_any {B : Nat} {w : World} (hB : B ≤ w.heap.size) (v : Int) (sa : Option Addr) (sn sc : Nat) (st : List St) (hst : Sts B w sa sn st) (hto : ∀ s, s ∈ st → s.tn ≤ 1048576) :
    Calls Try.prog 4 #[.int .i64 v, .slice sa sn sc] w fun e w' => e = .returned (.bool true) ∧ Below w.heap.size w w' := by
  have HF := Lib.hid (few_any hB sa sn sc st hst)
  have HX := Lib.hid hst
  have HTO := Lib.hid hto
  have hmx := hst.mx
  clear hst hto
  go_enter Try.func4, Try.ntmps4
  go_wp2_with fail
  refine HF.out.mono ?_
  rintro e w1 ⟨⟨bf, rfl, hbf⟩, hb1⟩
  have HB1 := Lib.hid hb1
  clear hb1
  rcases bf with _ | _
  · go_wp2
    go_ret
    exact ⟨rfl, HB1.out⟩
  · have hsn : sn ≤ 60 := hbf rfl
    clear hbf
    by_cases hv : v < 0 ∨ 1048576 < v
    · have HN1 := Lib.hid (new_bad v hv w1)
      have HN2 := Lib.hid (rnew_bad v hv w1)
      clear hv
      go_wp2_with fail
      refine HN1.out.mono ?_
      rintro e w2 ⟨rfl, rfl⟩
      go_wp2_with fail
      refine HN2.out.mono ?_
      rintro e w3 ⟨rfl, rfl⟩
      go_wp2_with fail
      refine (works_any _).mono ?_
      rintro e w4 ⟨rfl, hb4⟩
      have HB4 := Lib.hid (below_then HB1.out hb4 HB1.out.size)
      clear hb4
      go_wp2
      go_ret
      exact ⟨rfl, HB4.out⟩
    · obtain ⟨N, rfl⟩ : ∃ N : Nat, v = N := ⟨v.toNat, by omega⟩
      have hN : N ≤ 1048576 := by omega
      have HN1 := Lib.hid (new_ok N hN w1)
      have HN2 := Lib.hid (fun W => rnew_ok N hN W)
      have HRN := Lib.hid (Rel.new hN)
      clear hv hN
      go_wp2_with fail
      refine HN1.out.mono ?_
      rintro e w2 ⟨gt, q, rfl, hT, hb2⟩
      have HT2 := Lib.hid (hT.low HB1.out.size)
      have HB2 := Lib.hid (below_then HB1.out hb2 HB1.out.size)
      clear hT hb2
      go_wp2_with fail
      refine (HN2.out w2).mono ?_
      rintro e w3 ⟨gd, rfl, hD, hb3⟩
      have HD3 := Lib.hid (hD.low HB2.out.size)
      have HT3 := Lib.hid (HT2.out.below hb3)
      have HB3 := Lib.hid (below_then HB2.out hb3 HB2.out.size)
      clear hD hb3 HN1 HN2 HF
      go_wp2_with fail
      go_loopw [9] (fun i wr => ∃ (k : Nat) (m : TM) (d : DM) (q : TQ) (A : Option Addr) (c : Nat), k ≤ sn ∧ i = .int .i64 k ∧ TrS wr w.heap.size gt m q ∧ DrS wr w.heap.size gd d A c ∧ RG k m d ∧ Below w.heap.size w wr) (fun i _ => sn - (intOf i).toNat)
      case atStart => exact ⟨0, newM N, newD N, q, none, 0, Nat.zero_le _, rfl, HT3.out, HD3.out, ⟨HRN.out, by simp [newM], by simp [newM]⟩, HB3.out⟩
      case round =>
        clear HT2 HB2 HD3 HT3 HB3 HRN HB1
        obtain ⟨k, m, d, q, A, c, hk, rfl, hT, hD, hR, hb⟩ := hrel
        have HT := Lib.hid hT
        have HD := Lib.hid hD
        have HR := Lib.hid hR
        have HB := Lib.hid hb
        clear hT hD hR hb
        by_cases hlt : k < sn
        · have hkl : k < st.length := by rw [← HX.out.ln]; exact hlt
          obtain ⟨b, off, ha, hbB, ⟨h0, h1, h2, h3⟩, hok⟩ := (HX.out.below (HB.out.mono hB)).at_ hkl
          subst ha
          have ht := HTO.out _ (List.getElem_mem hkl)
          generalize st[k]'hkl = s at *
          have HONE := Lib.hid (one_any hB HB.out.size HT.out HD.out HR.out (by omega) s hok ht)
          have HRN := Lib.hid (HR.out.step (by omega) s hok.lb.1 hok.lb.2 hok.nb.2 hok.tb)
          clear hkl hok ht
          go_wp2_with fail
          refine HONE.out.mono ?_
          rintro e w4 ⟨rfl, q', A', c', hT, hD, hb4⟩
          have HT4 := Lib.hid hT
          have HD4 := Lib.hid hD
          have HB4 := Lib.hid (HB.out.trans hb4)
          have HTE := Lib.hid (tells_any hT hD HRN.out (by omega))
          clear hT hD hb4 HONE
          go_wp2_with fail
          refine HTE.out.mono ?_
          rintro e w5 ⟨rfl, hb5⟩
          have HT5 := Lib.hid (HT4.out.below hb5)
          have HD5 := Lib.hid (HD4.out.below hb5)
          have HB5 := Lib.hid (below_then HB4.out hb5 HB4.out.size)
          clear hb5 HTE
          go_wp2
          go_roundw
          case rel => exact ⟨k + 1, _, _, _, _, _, by omega, by go_num, HT5.out, HD5.out, HRN.out, HB5.out⟩
          case measure => simp [intOf]; omega
        · go_wp2_with fail
          refine (works_any _).mono ?_
          rintro e w4 ⟨rfl, hb4⟩
          have HB4 := Lib.hid (below_then HB.out hb4 HB.out.size)
          clear hb4
          go_wp2
          go_ret
          exact ⟨rfl, HB4.out⟩
end Go.Proofs.Ytbbpebfgdcidjaa.Ta
