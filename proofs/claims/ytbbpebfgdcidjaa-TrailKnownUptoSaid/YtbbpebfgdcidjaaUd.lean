/- The document's trail: Lits, Back, Next: what they answer and leave. Conditions: the bounds DOk, the memory. -/
import Derived.Test.YtbbpebfgdcidjaaUc
namespace Go.Proofs.Ytbbpebfgdcidjaa.Ta
open Go.RowKit Go.Proofs.Ytbbpebfgdcidjaa.Mem Go.Proofs.Ytbbpebfgdcidjaa.Sl Go.Proofs.Ytbbpebfgdcidjaa.Cl Go.Proofs.Ytbbpebfgdcidjaa.App Go.Shelf
open Go.Proofs.Ytbbpebfgdcidjaa.FnL (enc_at below_then)
set_option linter.unusedVariables false

def litsD (row : List Ent) : List Int := row.map (·.1)
theorem litsD_len (row : List Ent) : (litsD row).length = row.length := by unfold litsD; simp
section
variable {base g c : Nat} {d : DM} {A : Option Addr} {w : World}
def OwnR (w : World) (l : List Int) (e : Ending) (w' : World) : Prop := ∃ A2 c2, e = .returned (.slice A2 l.length c2) ∧ App.Own w' w.heap.size 30 A2 l.length c2 (LI l)
theorem rlits_any (h : DrS w base g d A c) (ok : DOk d) : Calls Try.prog 45 #[.pointer (some ⟨g, 0, none⟩)] w fun e w' => OwnR w (litsD d.row) e w' ∧ Below w.heap.size w w' := by
  have H := Lib.hid h
  have hln := ok.ln
  have HC1 := Lib.hid (fun W (hb : Below w.heap.size w W) => (h.below hb).blk.cell 1)
  have c1 : w.cell? ⟨g, 1, none⟩ = some (.slice A d.row.length c) := h.blk.cell 1
  have HF := Lib.hid (litsD_len d.row)
  clear h ok
  generalize hL : d.row.length = L at *
  have HL := Lib.hid hL
  clear hL
  go_enter Try.func45, Try.ntmps45
  go_wp2_with fail
  go_loopw [3, 4] (fun s i wr => ∃ (k : Nat) (A2 : Option Addr) (c2 : Nat), k ≤ L ∧ i = .int .i64 k ∧ s = .slice A2 k c2 ∧ App.Own wr w.heap.size 30 A2 k c2 (LI ((litsD d.row).take k)) ∧ Below w.heap.size w wr) (fun _ i _ => L - (intOf i).toNat)
  case atStart => exact ⟨0, none, 0, Nat.zero_le _, rfl, rfl, Own.nil _ _ _, Below.refl _ _⟩
  case round =>
    clear c1
    obtain ⟨k, A2, c2, hk, rfl, rfl, hO, hb⟩ := hrel
    have HO := Lib.hid hO
    have HB := Lib.hid hb
    clear hO hb
    have c1 : wr.cell? ⟨g, 1, none⟩ = some (.slice A L c) := HC1.out wr HB.out
    by_cases hlt : k < L
    · have hkl : k < d.row.length := by rw [HL.out]; exact hlt
      obtain ⟨b, ha, _, hc0, _, _⟩ := ((H.out.below HB.out).rows).at_ hkl
      subst ha
      have HS := Lib.hid (show (litsD d.row).take (k + 1) = (litsD d.row).take k ++ [d.row[k].1] by
        rw [List.take_succ_eq_append_getElem (by rw [litsD_len]; exact hkl)]
        unfold litsD; simp)
      generalize d.row[k]'hkl = y at *
      obtain ⟨y, yv, yr⟩ := y
      dsimp only at hc0 HS
      clear hkl
      go_wp2_with (at_builtin; refine wpApp rfl _ _ rfl w.heap.size A2 k c2 ((litsD d.row).take k) rfl (HO.out.alloc _) (some ⟨wr.heap.size, 0, none⟩) 1 1 [y] rfl rfl (one_rd wr y _) (fun h => by cases h) (by omega) (by simp; have := HB.out.size; omega) (k + 1) rfl ?_; intro A3 c3 w3 hO3 hb3 hg3 hw3; have HO3 := Lib.hid hO3; have HB3 := Lib.hid (show Below w.heap.size w w3 from (HB.out.alloc HB.out.size _).trans hb3); clear hO3 hb3 hg3 hw3)
      go_roundw
      case rel => exact ⟨k + 1, A3, c3, by omega, by go_num, rfl, by rw [HS.out]; exact HO3.out, HB3.out⟩
      case measure => simp [intOf]; omega
    · have HE := Lib.hid (show (litsD d.row).take k = litsD d.row from List.take_of_length_le (by rw [HF.out]; omega))
      have hkL : k = L := by omega
      have HFIN := Lib.hid (show OwnR w (litsD d.row) (.returned (.slice A2 k c2)) wr from ⟨A2, c2, by rw [HF.out, hkL], by rw [HF.out, ← hkL, ← HE.out]; exact HE.out ▸ HO.out⟩)
      clear hkL
      go_wp2
      go_ret
      exact ⟨HFIN.out, HB.out⟩
def popN (row : List Ent) (lv : Int) : Nat → Nat
  | 0 => 0
  | n + 1 => if lv < (row.getD n (0, 0, 0)).2.1 then popN row lv n else n + 1
theorem popN_le (row : List Ent) (lv : Int) : ∀ n, popN row lv n ≤ n
  | 0 => Nat.le_refl _
  | n + 1 => by
    unfold popN
    split
    · exact Nat.le_succ_of_le (popN_le row lv n)
    · exact Nat.le_refl _
def rbackE (d : DM) (lv : Int) : Int := if lv < 0 ∨ (d.top : Int) < lv then 101 else 0
def rgone (d : DM) (lv : Int) : List Int := if lv < 0 ∨ (d.top : Int) < lv then [] else (litsD (d.row.drop (popN d.row lv d.row.length))).reverse
def rbackD (d : DM) (lv : Int) : DM := if lv < 0 ∨ (d.top : Int) < lv then d else { d with row := d.row.take (popN d.row lv d.row.length), top := lv.toNat, head := min d.head (popN d.row lv d.row.length) }
def RBackR (w : World) (base g : Nat) (A : Option Addr) (c : Nat) (d : DM) (lv : Int) (e : Ending) (w' : World) : Prop :=
  ∃ A2 c2, e = .returned (.tuple #[.slice A2 (rgone d lv).length c2, .int .i64 (rbackE d lv)]) ∧ App.Own w' w.heap.size 30 A2 (rgone d lv).length c2 (LI (rgone d lv)) ∧ DrS w' base g (rbackD d lv) A c ∧ DStep g A A w w'
theorem rback_any (h : DrS w base g d A c) (ok : DOk d) (lv : Int) (hl0 : -9223372036854775808 ≤ lv) (hl1 : lv ≤ 9223372036854775807) : Calls Try.prog 41 #[.pointer (some ⟨g, 0, none⟩), .int .i64 lv] w fun e w' => RBackR w base g A c d lv e w' := by
  by_cases hn : lv < 0 ∨ (d.top : Int) < lv
  · have HFIN := Lib.hid (fun (w' : World) (hb : Below w.heap.size w w') (e : Ending) (he : e = .returned (.tuple #[.slice none 0 0, .int .i64 101])) => (show RBackR w base g A c d lv e w' from by
      unfold RBackR rgone rbackE rbackD
      rw [if_pos hn, if_pos hn, if_pos hn]
      exact ⟨none, 0, he, Own.nil _ _ _, h.below hb, DStep.of_below g A hb⟩))
    have c2 : w.cell? ⟨g, 2, none⟩ = some (.int .i64 (d.top : Int)) := h.blk.cell 2
    clear h ok
    by_cases p1 : lv < 0
    · clear hn
      go_enter Try.func41, Try.ntmps41
      go_wp2
      go_ret2
      exact HFIN.out _ (Below.refl _ _) _ rfl
    · have p2 : (d.top : Int) < lv := by omega
      clear hn
      go_enter Try.func41, Try.ntmps41
      go_wp2
      go_ret2
      exact HFIN.out _ (Below.refl _ _) _ rfl
  · have p1 : ¬ lv < 0 := by omega
    have p2 : ¬ (d.top : Int) < lv := by omega
    have HR := Lib.hid (show rgone d lv = (litsD (d.row.drop (popN d.row lv d.row.length))).reverse ∧ rbackE d lv = 0 ∧ rbackD d lv = { d with row := d.row.take (popN d.row lv d.row.length), top := lv.toNat, head := min d.head (popN d.row lv d.row.length) } from by
      unfold rgone rbackE rbackD
      rw [if_neg hn, if_neg hn, if_neg hn]; exact ⟨rfl, rfl, rfl⟩)
    have H := Lib.hid h
    have hln := ok.ln
    have HEB := Lib.hid ok.eb
    have HC1 := Lib.hid (fun W (hb : Below w.heap.size w W) => (h.below hb).blk.cell 1)
    have c1 : w.cell? ⟨g, 1, none⟩ = some (.slice A d.row.length c) := h.blk.cell 1
    have c2 : w.cell? ⟨g, 2, none⟩ = some (.int .i64 (d.top : Int)) := h.blk.cell 2
    obtain ⟨hle1, hle2⟩ := h.rows.le
    clear h ok hn
    obtain ⟨P, hP⟩ : ∃ P, popN d.row lv d.row.length = P := ⟨_, rfl⟩
    rw [hP] at HR
    generalize hL : d.row.length = L at *
    have HL := Lib.hid hL
    have HP := Lib.hid hP
    clear hL hP
    go_enter Try.func41, Try.ntmps41
    go_wp2_with fail
    go_loopw [6, 7] (fun s i wr => ∃ (k : Nat) (A2 : Option Addr) (c2 : Nat), k ≤ L ∧ i = .int .i64 k ∧ s = .slice A2 (L - k) c2 ∧ popN d.row lv k = P ∧ App.Own wr w.heap.size 30 A2 (L - k) c2 (LI (litsD (d.row.drop k)).reverse) ∧ Below w.heap.size w wr) (fun _ i _ => (intOf i).toNat)
    case atStart => exact ⟨L, none, 0, Nat.le_refl _, rfl, by rw [Nat.sub_self], HP.out, by rw [Nat.sub_self, List.drop_of_length_le (by rw [HL.out]; exact Nat.le_refl _)]; exact Own.nil _ _ _, Below.refl _ _⟩
    case round =>
      clear c1 c2
      obtain ⟨k, A2, c2', hk, rfl, rfl, hp, hO, hb⟩ := hrel
      have HPK := Lib.hid hp
      have HO := Lib.hid hO
      have HB := Lib.hid hb
      clear hO hb hp
      have c1 : wr.cell? ⟨g, 1, none⟩ = some (.slice A L c) := HC1.out wr HB.out
      have HEXIT := Lib.hid (fun (hkP : k = P) => (show wr.cell? ⟨g, 2, none⟩ = some (.int .i64 (d.top : Int)) ∧ wr.cell? ⟨g, 3, none⟩ = some (.int .i64 (d.head : Int)) ∧ wr.frozen? ⟨g, 1, none⟩ = false ∧ wr.frozen? ⟨g, 2, none⟩ = false ∧ wr.frozen? ⟨g, 3, none⟩ = false ∧
        ∀ W, W = ((wr.setCell ⟨g, 1, none⟩ (.slice A k c)).setCell ⟨g, 2, none⟩ (.int .i64 lv)).setCell ⟨g, 3, none⟩ (.int .i64 ((min d.head k : Nat) : Int)) → RBackR w base g A c d lv (.returned (.tuple #[.slice A2 (L - k) c2', .int .i64 0])) W from by
        have hD := H.out.below HB.out
        have hb := hD.blk
        refine ⟨hb.cell 2, hb.cell 3, hb.frozen 1, hb.frozen 2, hb.frozen 3, fun W hW => ?_⟩
        have hm : Mem.Mod (fun i => i = g) wr W := hW ▸ (((Mem.Mod.refl (fun i => i = g) wr).setCell (p := ⟨g, 1, none⟩) (.inl rfl) _).setCell (p := ⟨g, 2, none⟩) (.inl rfl) _).setCell (p := ⟨g, 3, none⟩) (.inl rfl) _
        obtain ⟨r1, r2, r3⟩ := HR.out
        have hlen : (litsD (d.row.drop P)).reverse.length = L - P := by rw [List.length_reverse, litsD_len, List.length_drop, HL.out]
        unfold RBackR
        rw [r1, r2, r3, hlen, ← hkP]
        refine ⟨A2, c2', rfl, ?_, ⟨?_, ?_, H.out.bg⟩, ?_, fun _ _ h => h⟩
        · refine HO.out.mod hm (fun i hi e he => ?_)
          have := H.out.blk.lt
          omega
        · have e1 : (d.row.take k).length = k := by rw [List.length_take, HL.out]; omega
          show Blk W g _ #[.int .i64 d.N, .slice A (d.row.take k).length c, .int .i64 (lv.toNat : Nat), .int .i64 ((min d.head k : Nat) : Int)]
          rw [e1, Int.toNat_of_nonneg (by omega), hW]
          exact ((hb.set_ 1 _).set_ 2 _).set_ 3 _
        · exact (hD.rows.mod hm (fun i _ e hi => hD.rows.ne_blk hb (by decide) (by rw [e, hi]))).take (by rw [HL.out]; exact hk)
        · exact (Mem.Mod.none_ HB.out _).then_ (hm.mono fun i _ e => .inl e)))
      have hx1 : (k : Int) ≤ (c : Int) := by omega
      have hx2 : (0 : Int) ≤ (k : Int) := Int.natCast_nonneg _
      rcases k with _ | j
      · have hkP : 0 = P := HPK.out
        obtain ⟨k2, k3, f1, f2, f3, HF⟩ := HEXIT.out hkP
        have HF := Lib.hid HF
        clear HEXIT hkP
        have hx3 : ((0 : Nat) : Int) = 0 := rfl
        go_wp2_with fail
        all_goals rename_i hmin
        all_goals go_ret2
        all_goals refine HF.out _ ?_
        all_goals congr 2
        all_goals omega
      · have hkl : j < d.row.length := by rw [HL.out]; omega
        obtain ⟨b, ha, _, hc0, hc1, _⟩ := ((H.out.below HB.out).rows).at_ hkl
        subst ha
        have HS := Lib.hid (show (litsD (d.row.drop j)).reverse = (litsD (d.row.drop (j + 1))).reverse ++ [d.row[j].1] by
          rw [List.drop_eq_getElem_cons hkl]; unfold litsD; rw [List.map_cons, List.reverse_cons])
        have HPS := Lib.hid (show popN d.row lv (j + 1) = if lv < d.row[j].2.1 then popN d.row lv j else j + 1 by
          show (if lv < (d.row.getD j (0, 0, 0)).2.1 then _ else _) = _
          rw [List.getD_eq_getElem?_getD, List.getElem?_eq_getElem hkl]; rfl)
        generalize d.row[j]'hkl = y at *
        obtain ⟨y, yv, yr⟩ := y
        dsimp only at hc0 hc1 HS HPS
        clear hkl
        have e1 : IntKind.i64.wrap (((j + 1 : Nat) : Int) - 1) = (j : Int) := by rw [IntWalk.i64_in _ (by omega)]; omega
        have e2 : (0 : Int) < ((j + 1 : Nat) : Int) := by omega
        have e3 : (j : Int) < (L : Int) := by omega
        have e4 : (0 : Int) ≤ (j : Int) := by omega
        by_cases hp : lv < yv
        · have HPJ := Lib.hid (show popN d.row lv j = P by have := HPS.out; rw [if_pos hp] at this; rw [← this]; exact HPK.out)
          clear HEXIT HPS
          have e5 : L - (j + 1) + 1 = L - j := by omega
          have HE5 := Lib.hid e5
          clear e5
          go_wp2_with (at_builtin; refine wpApp rfl _ _ rfl w.heap.size A2 (L - (j + 1)) c2' (litsD (d.row.drop (j + 1))).reverse rfl (HO.out.alloc _) (some ⟨wr.heap.size, 0, none⟩) 1 1 [y] rfl rfl (one_rd wr y _) (fun h => by cases h) (by omega) (by simp; have := HB.out.size; omega) (L - j) HE5.out ?_; intro A3 c3 w3 hO3 hb3 hg3 hw3; have HO3 := Lib.hid hO3; have HB3 := Lib.hid (show Below w.heap.size w w3 from (HB.out.alloc HB.out.size _).trans hb3); clear hO3 hb3 hg3 hw3)
          go_roundw
          case rel => exact ⟨j, A3, c3, by omega, by first | rfl | go_num, rfl, HPJ.out, by rw [HS.out]; exact HO3.out, HB3.out⟩
          case measure => simp [intOf]
        · have hkP : j + 1 = P := by have := HPS.out; rw [if_neg hp] at this; rw [← this]; exact HPK.out
          obtain ⟨k2, k3, f1, f2, f3, HF⟩ := HEXIT.out hkP
          have HF := Lib.hid HF
          clear HEXIT HPS hkP
          go_wp2_with fail
          all_goals rename_i hmin
          all_goals go_ret2
          all_goals refine HF.out _ ?_
          all_goals congr 2
          all_goals omega
end
end Go.Proofs.Ytbbpebfgdcidjaa.Ta
