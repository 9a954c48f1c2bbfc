/- Trail: Pick, few and put of layer 10's statements. Conditions: the bounds, the memory. -/
import Derived.Test.YtbbpebfgdcidjaaTi
namespace Go.Proofs.Ytbbpebfgdcidjaa.Ta
open Go.RowKit Go.Proofs.Ytbbpebfgdcidjaa.Mem Go.Proofs.Ytbbpebfgdcidjaa.Sl Go.Proofs.Ytbbpebfgdcidjaa.Cl Go.Proofs.Ytbbpebfgdcidjaa.App Go.Shelf
open Go.Proofs.Ytbbpebfgdcidjaa.FnL (enc_at below_then)
set_option linter.unusedVariables false

theorem pickI_bd (i : Int) {n : Int} (hn : 0 < n) : 0 ≤ pickI i n ∧ pickI i n < n := by
  have h1 := Int.lt_tmod_of_pos i hn
  exact ⟨Int.tmod_nonneg _ (by omega), Int.tmod_lt_of_pos _ hn⟩
theorem pick_any (i : Int) (h0 : -9223372036854775808 ≤ i) (h1 : i ≤ 9223372036854775807) (n : Int) (hn : 0 < n) (hn2 : n ≤ 1000000) (w : World) :
    Calls Try.prog 9 #[.int .i64 i, .int .i64 n] w fun e w' => e = .returned (.int .i64 (pickI i n)) ∧ w' = w := by
  have hb1 : -n < i.tmod n ∧ i.tmod n < n := ⟨by have := Int.lt_tmod_of_pos i hn; omega, Int.tmod_lt_of_pos i hn⟩
  have HE := Lib.hid (show pickI i n = (i.tmod n + n).tmod n from rfl)
  have hp := pickI_bd i hn
  rw [HE.out] at hp
  obtain ⟨r, hr⟩ : ∃ r, i.tmod n = r := ⟨_, rfl⟩
  rw [hr] at hb1 HE hp
  have e1 : IntKind.i64.wrap r = r := IntWalk.i64_in _ (by omega)
  have e2 : IntKind.i64.wrap (r + n) = r + n := IntWalk.i64_in _ (by omega)
  obtain ⟨p, hpp⟩ : ∃ p, (r + n).tmod n = p := ⟨_, rfl⟩
  rw [hpp] at hp HE
  have e3 : IntKind.i64.wrap p = p := IntWalk.i64_in _ (by omega)
  have h3 : ¬ n ≤ 0 := by omega
  have h4 : (n == 0) = false := by simp; omega
  rw [HE.out]
  clear HE
  go_enter Try.func9, Try.ntmps9
  go_wp2
  go_ret
  exact ⟨rfl, rfl⟩
def Few (sn : Nat) (e : Ending) : Prop := ∃ b : Bool, e = .returned (.bool b) ∧ (b = true → sn ≤ 60)
theorem few_any {B : Nat} {w : World} (hB : B ≤ w.heap.size) (sa : Option Addr) (sn sc : Nat) (st : List St) (hst : Sts B w sa sn st) :
    Calls Try.prog 7 #[.slice sa sn sc] w fun e w' => Few sn e ∧ Below w.heap.size w w' := by
  have HX := Lib.hid hst
  have HL := Lib.hid hst.ln
  have HS := Lib.hid hB
  have hmx := hst.mx
  clear hst hB
  go_enter Try.func7, Try.ntmps7
  go_wp2_with fail
  go_loopw [3, 4] (fun s i wr => ∃ (k : Nat) (x : Int), k ≤ sn ∧ k ≤ 61 ∧ i = .int .i64 k ∧ s = .int .i64 x ∧ Below w.heap.size w wr) (fun _ i _ => sn - (intOf i).toNat)
  case atStart => exact ⟨0, 0, Nat.zero_le _, Nat.zero_le _, rfl, rfl, Below.refl _ _⟩
  case round =>
    obtain ⟨k, x, hk, hk2, rfl, rfl, hb⟩ := hrel
    have HB := Lib.hid hb
    clear hb
    by_cases hlt : k < sn
    · by_cases h60 : k ≤ 60
      · have hkl : k < st.length := by rw [← HL.out]; exact hlt
        obtain ⟨b, off, ha, _, ⟨hc0, hc1, hc2, hc3⟩, _⟩ := (HX.out.below (HB.out.mono HS.out)).at_ hkl
        subst ha
        generalize st[k]'hkl = y at *
        obtain ⟨yk, yl, yn, yA, ytn, ytc, yto⟩ := y
        dsimp only at hc0 hc1 hc2 hc3
        clear hkl
        go_wp2_with fail
        go_roundw
        case rel => exact ⟨k + 1, _, by omega, by omega, by go_num, rfl, HB.out⟩
        case measure => simp [intOf]; omega
      · have h61 : ¬ sn ≤ 60 := by omega
        go_wp2
        all_goals go_ret
        all_goals exact ⟨⟨_, rfl, fun h => by simp_all⟩, HB.out⟩
    · by_cases h60 : sn ≤ 60
      · go_wp2
        all_goals go_ret
        all_goals exact ⟨⟨_, rfl, fun _ => h60⟩, HB.out⟩
      · go_wp2
        all_goals go_ret
        all_goals exact ⟨⟨_, rfl, fun h => by simp_all⟩, HB.out⟩
theorem lput_any {base g : Nat} {m : TM} {q : TQ} {w : World} (h : TrS w base g m q) (ok : TOk m) (hln : m.lits.length ≤ 999999) (hsn : m.starts.length ≤ 999999) (s : St) (hk : -9223372036854775808 ≤ s.k ∧ s.k ≤ 9223372036854775807) (hl : -2147483648 ≤ s.l ∧ s.l ≤ 2147483647) :
    Calls Try.prog 10 #[.pointer (some ⟨g, 0, none⟩), .agg #[.int .i64 s.k, .int .i32 s.l, .int .i64 s.n, .slice s.A s.tn s.tc]] w fun e w' => e = .returned (.tuple #[]) ∧ ∃ q', TrS w' base g (putS m s) q' ∧ TStep g q q' w w' := by
  have HE := Lib.hid (show putS m s = if pickI s.k 2 = 0 then decM m s.l else asgM m s.l s.n from rfl)
  have HP := Lib.hid (fun W => pick_any s.k hk.1 hk.2 2 (by omega) (by omega) W)
  obtain ⟨W0, hW0⟩ : ∃ W0, W0 = w.alloc (.cells #[.int .i64 s.k, .int .i32 s.l, .int .i64 s.n, .slice s.A s.tn s.tc] 33) := ⟨_, rfl⟩
  have HB0 := Lib.hid (show Below w.heap.size w W0 from hW0 ▸ (Below.refl _ _).alloc (Nat.le_refl _) _)
  have HK0 := Lib.hid (show Blk W0 w.heap.size 33 #[.int .i64 s.k, .int .i32 s.l, .int .i64 s.n, .slice s.A s.tn s.tc] from hW0 ▸ Blk.new w _ _)
  have HT0 := Lib.hid (TStep.of_below g q HB0.out)
  have HD := Lib.hid (decide_any (h.below HB0.out) ok hln hsn s.l hl.1 hl.2)
  have HA := Lib.hid (assign_any (h.below HB0.out) ok hln s.l s.n hl.1 hl.2)
  have HW0 := Lib.hid hW0
  clear h ok hW0
  generalize s.k = sk at *
  generalize s.l = sl at *
  generalize s.n = sn at *
  generalize s.A = sA at *
  generalize s.tn = stn at *
  generalize s.tc = stc at *
  have c0 : W0.cell? ⟨w.heap.size, 0, none⟩ = some (.int .i64 sk) := HK0.out.cell 0
  have c1 : W0.cell? ⟨w.heap.size, 1, none⟩ = some (.int .i32 sl) := HK0.out.cell 1
  have c2 : W0.cell? ⟨w.heap.size, 2, none⟩ = some (.int .i64 sn) := HK0.out.cell 2
  go_enter Try.func10, Try.ntmps10
  go_upto_region 1 with (fail)
  rw [← HW0.out]
  go_wp2_with fail
  refine (HP.out _).mono ?_
  rintro e w1 ⟨rfl, rfl⟩
  by_cases hp : pickI sk 2 = 0
  · rw [hp]
    have HE2 := Lib.hid (HE.out.trans (if_pos hp))
    go_wp2_with fail
    refine HD.out.mono ?_
    rintro e w2 ⟨rfl, q', h2, s2⟩
    have H2 := Lib.hid h2
    have S2 := Lib.hid s2
    clear h2 s2
    go_wp2
    go_end0
    exact ⟨rfl, q', by rw [HE2.out]; exact H2.out, HT0.out.trans S2.out⟩
  · have HE2 := Lib.hid (HE.out.trans (if_neg hp))
    have hp' : (pickI sk 2 == 0) = false := by simpa using hp
    go_wp2_with fail
    refine HA.out.mono ?_
    rintro e w2 ⟨rfl, q', h2, s2⟩
    have H2 := Lib.hid h2
    have S2 := Lib.hid s2
    clear h2 s2
    go_wp2
    go_end0
    exact ⟨rfl, q', by rw [HE2.out]; exact H2.out, HT0.out.trans S2.out⟩
end Go.Proofs.Ytbbpebfgdcidjaa.Ta
