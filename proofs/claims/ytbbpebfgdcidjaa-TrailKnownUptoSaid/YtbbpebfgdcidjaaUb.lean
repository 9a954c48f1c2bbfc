/- The document's trail: find, may, Lits, Value, Of: what they answer. Conditions: the bounds DOk, the memory. -/
import Derived.Test.YtbbpebfgdcidjaaUa
namespace Go.Proofs.Ytbbpebfgdcidjaa.Ta
open Go.RowKit Go.Proofs.Ytbbpebfgdcidjaa.Mem Go.Proofs.Ytbbpebfgdcidjaa.Sl Go.Proofs.Ytbbpebfgdcidjaa.Cl Go.Proofs.Ytbbpebfgdcidjaa.App Go.Shelf
open Go.Proofs.Ytbbpebfgdcidjaa.FnL (enc_at below_then)
set_option linter.unusedVariables false

def findN (row : List Ent) (v : Int) : Nat := row.findIdx (fun e => varI e.1 == v)
def findR (row : List Ent) (v : Int) : Int := if findN row v < row.length then (findN row v : Int) else -1
theorem findN_hit {row : List Ent} {v : Int} {k : Nat} (hk : k < row.length) (h : varI row[k].1 = v) (hn : ∀ j (hj : j < row.length), j < k → varI row[j].1 ≠ v) : findN row v = k := by
  unfold findN
  rw [List.findIdx_eq hk]
  exact ⟨by simpa using h, fun j hj => by simpa using hn j (by omega) hj⟩
theorem findN_miss {row : List Ent} {v : Int} (hn : ∀ j (hj : j < row.length), varI row[j].1 ≠ v) : findN row v = row.length := by
  unfold findN
  rw [List.findIdx_eq_length]
  intro x hx
  obtain ⟨j, hj, rfl⟩ := List.getElem_of_mem hx
  simpa using hn j hj
theorem findR_hit {row : List Ent} {v : Int} {k : Nat} (hk : k < row.length) (h : varI row[k].1 = v) (hn : ∀ j (hj : j < row.length), j < k → varI row[j].1 ≠ v) : findR row v = k := by
  unfold findR
  rw [findN_hit hk h hn, if_pos hk]
theorem findR_miss {row : List Ent} {v : Int} (hn : ∀ j (hj : j < row.length), varI row[j].1 ≠ v) : findR row v = -1 := by
  unfold findR
  rw [findN_miss hn, if_neg (by omega)]
section
variable {base g c : Nat} {d : DM} {A : Option Addr} {w : World}
theorem find_any (h : DrS w base g d A c) (ok : DOk d) (v : Int) : Calls Try.prog 54 #[.pointer (some ⟨g, 0, none⟩), .int .i64 v] w fun e w' => e = .returned (.int .i64 (findR d.row v)) ∧ w' = w := by
  have H := Lib.hid h
  have hln := ok.ln
  have HEB := Lib.hid ok.eb
  have c1 : w.cell? ⟨g, 1, none⟩ = some (.slice A d.row.length c) := h.blk.cell 1
  clear h ok
  generalize hL : d.row.length = L at *
  have HL := Lib.hid hL
  clear hL
  go_enter Try.func54, Try.ntmps54
  go_wp2_with fail
  go_loopw [5] (fun i wr => ∃ k : Nat, k ≤ L ∧ i = .int .i64 k ∧ (∀ j (hj : j < d.row.length), j < k → varI d.row[j].1 ≠ v) ∧ w = wr) (fun i _ => L - (intOf i).toNat)
  case atStart => exact ⟨0, Nat.zero_le _, rfl, fun j _ h => by omega, rfl⟩
  case round =>
    obtain ⟨k, hk, rfl, hf, rfl⟩ := hrel
    have HF := Lib.hid hf
    clear hf
    by_cases hlt : k < L
    · have hkl : k < d.row.length := by rw [HL.out]; exact hlt
      obtain ⟨b, ha, _, hc0, _, _⟩ := H.out.rows.at_ hkl
      subst ha
      have hb := HEB.out _ (List.getElem_mem hkl)
      have HHIT := Lib.hid (fun e => findR_hit (v := v) hkl e HF.out)
      have HNX := Lib.hid (fun (hne : varI d.row[k].1 ≠ v) => (show ∀ j (hj : j < d.row.length), j < k + 1 → varI d.row[j].1 ≠ v from fun j hj hlt => by
        rcases Nat.lt_or_eq_of_le (Nat.le_of_lt_succ hlt) with h | h
        · exact HF.out j hj h
        · subst h; exact hne))
      generalize d.row[k]'hkl = y at *
      obtain ⟨yl, yv, yr⟩ := y
      dsimp only at hc0 hb HHIT HNX
      have HC := Lib.hid (rVar_any yl hb.1.1 hb.1.2 w)
      clear hb hkl
      by_cases e : varI yl = v
      · have HE := Lib.hid (HHIT.out e)
        rw [e] at HC
        clear e HHIT HNX
        go_wp2_with fail
        refine HC.out.mono ?_
        rintro e w1 ⟨rfl, rfl⟩
        go_wp2
        go_ret
        exact ⟨by rw [HE.out]; rfl, rfl⟩
      · have HE := Lib.hid (HNX.out e)
        have he : (varI yl == v) = false := by simpa using e
        clear HHIT HNX
        go_wp2_with fail
        refine HC.out.mono ?_
        rintro e w1 ⟨rfl, rfl⟩
        go_wp2
        go_roundw
        case rel => exact ⟨k + 1, by omega, by go_num, HE.out, trivial⟩
        case measure => simp [intOf]; omega
    · have HE := Lib.hid (findR_miss (v := v) (fun j hj => HF.out j hj (by have := HL.out; omega)))
      go_wp2
      go_ret
      exact ⟨by rw [HE.out]; rfl, rfl⟩
def mayD (d : DM) (l : Int) : Int := if l = 0 ∨ (d.N : Int) < varI l then 4 else if 0 ≤ findR d.row (varI l) then 100 else 0
theorem rmay_any (h : DrS w base g d A c) (ok : DOk d) (l : Int) (h0 : -2147483648 ≤ l) (h1 : l ≤ 2147483647) : Calls Try.prog 52 #[.pointer (some ⟨g, 0, none⟩), .int .i32 l] w fun e w' => e = .returned (.int .i64 (mayD d l)) ∧ Below w.heap.size w w' := by
  have HC := Lib.hid (rVar_any l h0 h1)
  have HE := Lib.hid (show mayD d l = if l = 0 ∨ (d.N : Int) < varI l then 4 else if 0 ≤ findR d.row (varI l) then 100 else 0 from rfl)
  have hN := ok.N
  have HFI := Lib.hid (fun n => find_any (h.below (belowN (Below.refl _ w) n)) ok (varI l))
  have q1 : w.cell? ⟨g, 0, none⟩ = some (.int .i64 (d.N : Int)) := h.blk.cell 0
  have hvb := varI_bd h0 h1
  clear h ok
  generalize varI l = v at *
  generalize findR d.row v = p at *
  generalize d.N = N at *
  by_cases p1 : l = 0
  · have HR := Lib.hid (HE.out.trans (if_pos (.inl p1)))
    subst p1
    go_enter Try.func52, Try.ntmps52
    go_wp2_with fail
    go_quiet (fail)
    go_wp2
    go_ret
    exact ⟨by rw [HR.out]; rfl, by repeat (first | exact Below.refl _ _ | refine belowN ?_ _)⟩
  · have p1' : (l == 0) = false := by simpa using p1
    by_cases p2 : (N : Int) < v
    · have HR := Lib.hid (HE.out.trans (if_pos (.inr p2)))
      go_enter Try.func52, Try.ntmps52
      go_wp2_with fail
      go_quiet ((go_at_call 53; exact qs (HC.out _) ⟨_, rfl⟩))
      go_wp2
      go_ret
      exact ⟨by rw [HR.out]; rfl, by repeat (first | exact Below.refl _ _ | refine belowN ?_ _)⟩
    · have HE2 := Lib.hid (HE.out.trans (if_neg (by omega)))
      by_cases p3 : 0 ≤ p
      · have HR := Lib.hid (HE2.out.trans (if_pos p3))
        go_enter Try.func52, Try.ntmps52
        go_wp2_with fail
        go_quiet ((go_at_call 53; exact qs (HC.out _) ⟨_, rfl⟩))
        go_wp2_with fail
        refine (HC.out _).mono ?_
        rintro e w1 ⟨rfl, rfl⟩
        go_wp2_with fail
        refine (HFI.out nq).mono ?_
        rintro e w1 ⟨rfl, rfl⟩
        go_wp2
        go_ret
        exact ⟨by rw [HR.out]; rfl, by repeat (first | exact Below.refl _ _ | refine belowN ?_ _)⟩
      · have HR := Lib.hid (HE2.out.trans (if_neg p3))
        go_enter Try.func52, Try.ntmps52
        go_wp2_with fail
        go_quiet ((go_at_call 53; exact qs (HC.out _) ⟨_, rfl⟩))
        go_wp2_with fail
        refine (HC.out _).mono ?_
        rintro e w1 ⟨rfl, rfl⟩
        go_wp2_with fail
        refine (HFI.out nq).mono ?_
        rintro e w1 ⟨rfl, rfl⟩
        go_wp2
        go_ret
        exact ⟨by rw [HR.out]; rfl, by repeat (first | exact Below.refl _ _ | refine belowN ?_ _)⟩
end
end Go.Proofs.Ytbbpebfgdcidjaa.Ta
