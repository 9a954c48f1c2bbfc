/- The document's heap: put. Conditions: the memory. -/
import Derived.Test.YtienomdennbkpaaHp
namespace Go.Proofs.Ytienomdennbkpaa.He
open Go.RowKit Go.Proofs.Ytienomdennbkpaa.Mem Go.Proofs.Ytienomdennbkpaa.Sl Go.Shelf
open Go.Proofs.Ytienomdennbkpaa.FnL (enc_at below_then)
set_option linter.unusedVariables false

/-- The document's heap behind a call. -/
def NextD (w : World) (B N : Nat) (d : DA) (s l : List Int) (w' : World) : Prop :=
  ∃ d', RH w' B N d' s l ∧ (d'.g = d.g ∧ d'.s = d.s) ∧ (∀ i, mineD d' i → mineD d i ∨ w.heap.size ≤ i) ∧ Mod (fun i => i = d.g ∨ i = d.s) w w'
theorem RH.next {w : World} {B N : Nat} {d : DA} {s l : List Int} (h : RH w B N d s l) : NextD w B N d s l w := ⟨d, h, ⟨rfl, rfl⟩, fun _ e => .inl e, Mod.refl _ _⟩
/-- The list is turned to a new row. -/
theorem RH.newL {w W : World} {B N : Nat} {d : DA} {s l l' : List Int} (h : RH w B N d s l) (hB : B ≤ w.heap.size) (hb : Below w.heap.size w W) {A : Option Addr} {c : Nat} (hO : App.Own W w.heap.size 3 A l'.length c (LZ l')) (hrg : ∀ x, x ∈ l' → 1 ≤ x ∧ x ≤ N) (hnd : l'.Nodup) :
    NextD w B N d s l' (W.setCell ⟨d.g, 1, none⟩ (.slice A l'.length c)) := by
  have h1 := h.below hb
  have hgl := h.blk.lt
  have hsl := h.sr.lt
  refine ⟨⟨d.g, d.s, d.sc, A, c⟩, ⟨h1.blk.set_ 1 (.slice A l'.length c), h1.sr.far (p := ⟨d.g, 1, none⟩) (Ne.symm h.gs) _, ?_, h.sl, hrg, hnd, h.bg, h.hN⟩, ⟨rfl, rfl⟩, fun i hi => ?_, ?_⟩
  · exact (hO.mod (Mod.setCell (S := fun j => j = d.g) (Mod.refl _ W) (p := ⟨d.g, 1, none⟩) (.inl rfl) (.slice A l'.length c)) (fun i hi _ e => by omega)).low hB
  · rcases hi with e | e | e
    · exact .inl (.inl e)
    · exact .inl (.inr (.inl e))
    · exact .inr (own_lt hO e).1
  · exact (Mod.none_ hb _).setCell (.inl (.inl rfl)) _
theorem RdV.dropB {w : World} {A : Option Addr} {vs : List Value} (h : RdV w A vs) {k : Nat} {b off : Nat} (e : A = some ⟨b, off, none⟩) : RdV w (some ⟨b, off + k, none⟩) (vs.drop k) := fun hp => by
  obtain ⟨b', off', e', hx, hc⟩ := h (by simp at hp; omega)
  rw [e] at e'
  cases e'
  exact ⟨b, off + k, rfl, hx, fun i v hi => by
    rw [List.getElem?_drop] at hi
    have := hc (k + i) v hi
    rwa [← Nat.add_assoc] at this⟩
theorem LZ_take (l : List Int) (k : Nat) : LZ (l.take k) = (LZ l).take k := by unfold LZ; rw [List.map_take]
theorem LZ_drop (l : List Int) (k : Nat) : LZ (l.drop k) = (LZ l).drop k := by unfold LZ; rw [List.map_drop]
theorem srt_lt {s l : List Int} (h : l.Pairwise fun a b => kf s a < kf s b) {i j : Nat} (hij : i < j) (hj : j < l.length) : kf s (l.getD i 0) < kf s (l.getD j 0) := by
  rw [List.getD_eq_getElem?_getD, List.getD_eq_getElem?_getD, List.getElem?_eq_getElem (by omega), List.getElem?_eq_getElem hj]
  exact List.pairwise_iff_getElem.1 h i j (by omega) hj hij
theorem put_ord {s l : List Int} {v : Int} {k : Nat} (h : l.Pairwise fun a b => kf s a < kf s b) (hk : k ≤ l.length) (hlo : ∀ i, i < k → kf s (l.getD i 0) < kf s v) (hhi : ∀ i, k ≤ i → i < l.length → kf s v < kf s (l.getD i 0)) :
    Ord s (l.take k ++ [v] ++ l.drop k) (v :: l) := by
  constructor
  · rw [List.append_assoc]
    have h1 : (l.take k ++ ([v] ++ l.drop k)).Perm (v :: (l.take k ++ l.drop k)) := List.perm_middle
    rw [List.take_append_drop] at h1
    exact h1
  · rw [List.append_assoc, List.pairwise_append]
    refine ⟨h.sublist (List.take_sublist _ _), ?_, ?_⟩
    · rw [List.singleton_append, List.pairwise_cons]
      refine ⟨fun x hx => ?_, h.sublist (List.drop_sublist _ _)⟩
      obtain ⟨i, hi, rfl⟩ := List.getElem_of_mem hx
      rw [List.length_drop] at hi
      have := hhi (k + i) (by omega) (by omega)
      rw [List.getD_eq_getElem?_getD, List.getElem?_eq_getElem (by omega)] at this
      rw [List.getElem_drop]
      exact this
    · intro a ha b hb
      obtain ⟨i, hi, rfl⟩ := List.getElem_of_mem ha
      rw [List.length_take] at hi
      have h1 := hlo i (by omega)
      rw [List.getD_eq_getElem?_getD, List.getElem?_eq_getElem (by omega)] at h1
      have h1 : kf s l[i] < kf s v := h1
      rw [List.getElem_take]
      rcases List.mem_append.1 hb with hb | hb
      · rw [List.mem_singleton] at hb; subst hb; exact h1
      · obtain ⟨j, hj, rfl⟩ := List.getElem_of_mem hb
        rw [List.length_drop] at hj
        have := hhi (k + j) (by omega) (by omega)
        rw [List.getD_eq_getElem?_getD, List.getElem?_eq_getElem (by omega)] at this
        have this : kf s v < kf s l[k + j] := this
        rw [List.getElem_drop]
        omega
theorem grown_below {base n c : Nat} {t : TypeId} {A : Option Addr} {xs : List Value} {w w' : World} (hO : App.Own w base t A n c xs) (hb : base ≤ w.heap.size) (hg : w.grownBy w' (Value.slice A n c).ownBlock) : Below base w w' :=
  (Mod.grown hg).below (fun i _ e => hO.block e) hb
def PutR (w : World) (B N : Nat) (d : DA) (s l : List Int) (v : Int) (e : Ending) (w' : World) : Prop := e = .returned (.tuple #[]) ∧ ∃ l', NextD w B N d s l' w' ∧ Ord s l' (v :: l)
set_option maxRecDepth 100000 in
set_option maxHeartbeats 1000000 in
theorem put_any {w : World} {B N : Nat} {d : DA} {s l : List Int} (h : RH w B N d s l) (hB : B ≤ w.heap.size) (hs : l.Pairwise fun a b => kf s a < kf s b) (v : Nat) (hv : 1 ≤ v ∧ v ≤ N) (hn : (v : Int) ∉ l) :
    Calls Try.prog 54 #[.pointer (some ⟨d.g, 0, none⟩), .int .i64 (v : Int)] w (PutR w B N d s l v) := by
  have H := Lib.hid h
  have hN := h.hN
  have hl := h.lenN
  have HS := Lib.hid hs
  have HV := Lib.hid hv
  have HNO := Lib.hid hn
  have HBS := Lib.hid hB
  have c1 : w.cell? ⟨d.g, 1, none⟩ = some (.slice d.lA l.length d.lc) := h.blk.cell 1
  clear h hs hn hB hv
  go_enter Try.func54, Try.ntmps54
  go_upto_block 0 with (fail)
  go_cut [4] from 11 to 27 (fun a wx => ∃ k : Nat, k ≤ l.length ∧ a = .int .i64 k ∧ (∀ i, i < k → kf s (l.getD i 0) < kf s (v : Int)) ∧ (∀ i, k ≤ i → i < l.length → kf s (v : Int) < kf s (l.getD i 0)) ∧ Below w.heap.size w wx)
  case first =>
    go_wp2_with fail
    go_loopg [4] l.length (fun M a wr => ∃ k : Nat, M = k ∧ k ≤ l.length ∧ a = .int .i64 k ∧ (∀ i, k ≤ i → i < l.length → kf s (v : Int) < kf s (l.getD i 0)) ∧ Below w.heap.size w wr)
    case atStart => exact ⟨l.length, rfl, Nat.le_refl _, rfl, fun i h1 h2 => absurd h2 (by omega), Below.refl _ _⟩
    case round =>
      obtain ⟨_, rfl, hk, rfl, hhi, hb⟩ := hrel
      have HHI := Lib.hid hhi
      have HB := Lib.hid hb
      clear c1
      have c1 : wr.cell? ⟨d.g, 1, none⟩ = some (.slice d.lA l.length d.lc) := (H.out.below hb).blk.cell 1
      clear hhi hb
      rcases Nat.eq_zero_or_pos gk with rfl | hkp
      · go_wp2_with fail
        go_meet
        case rel => exact ⟨0, Nat.zero_le _, rfl, fun i hi => absurd hi (Nat.not_lt_zero _), HHI.out, HB.out⟩
      · obtain ⟨a, eA, ca⟩ := (H.out.below HB.out).at_ (i := gk - 1) (by omega)
        rw [eA] at c1
        have hkp1 : (0 : Int) < (gk : Int) := by omega
        have e1 : IntKind.i64.wrap ((gk : Int) - 1) = (gk : Int) - 1 := IntWalk.i64_in _ (by omega)
        have e2 : (gk : Int) - 1 < (l.length : Int) := by omega
        have e3 : (0 : Int) ≤ (gk : Int) - 1 := by omega
        have hrg := H.out.rg _ (getD_mem (l := l) (i := gk - 1) (by omega))
        obtain ⟨x, hx⟩ : ∃ x : Nat, l.getD (gk - 1) 0 = (x : Int) := ⟨(l.getD (gk - 1) 0).toNat, by omega⟩
        have HX := Lib.hid hx
        rw [hx] at ca hrg
        have HBF := Lib.hid (dbefore_any (H.out.below HB.out) v x (by have := HV.out; omega) (by omega))
        clear hx hrg eA
        by_cases hlt : kf s (v : Int) < kf s (x : Int)
        · rw [decide_eq_true hlt] at HBF
          have HLT := Lib.hid hlt
          clear hlt
          go_wp2_with fail
          refine HBF.out.mono ?_
          rintro e w2 ⟨rfl, nd, rfl⟩
          have HB2 := Lib.hid (belowN HB.out nd)
          clear HBF
          go_wp2
          go_roundg (gk - 1)
          case rel => exact ⟨gk - 1, rfl, by omega, by first | rfl | (congr 1; omega), fun i h1 h2 => by
            by_cases hi : i = gk - 1
            · subst hi; rw [HX.out]; exact HLT.out
            · exact HHI.out i (by omega) h2, HB2.out⟩
          case measure => omega
        · rw [decide_eq_false hlt] at HBF
          have HLT := Lib.hid (show kf s (x : Int) < kf s (v : Int) by
            rcases Int.lt_or_eq_of_le (Int.not_lt.1 hlt) with h3 | h3
            · exact h3
            · exfalso
              have hxr := H.out.rg _ (getD_mem (l := l) (i := gk - 1) (by omega))
              rw [HX.out] at hxr
              have h4 := kf_inj s (a := (x : Int)) (b := (v : Int)) ⟨by omega, by omega⟩ ⟨by omega, by have := HV.out; omega⟩ h3
              exact HNO.out (by rw [← h4, ← HX.out]; exact getD_mem (by omega)))
          clear hlt
          go_wp2_with fail
          refine HBF.out.mono ?_
          rintro e w2 ⟨rfl, nd, rfl⟩
          have HB2 := Lib.hid (belowN HB.out nd)
          clear HBF
          go_wp2_with fail
          go_meet
          case rel => exact ⟨gk, hk, rfl, fun i hi => by
            by_cases hi2 : i = gk - 1
            · subst hi2; rw [HX.out]; exact HLT.out
            · have h3 := srt_lt HS.out (i := i) (j := gk - 1) (by omega) (by omega)
              rw [HX.out] at h3
              have := HLT.out
              omega, HHI.out, HB2.out⟩
  case rest =>
    clear c1
    obtain ⟨k, hk, rfl, hlo, hhi, hb⟩ := hcut
    have HB := Lib.hid hb
    have HR := Lib.hid (H.out.below hb)
    have c1 : wc.cell? ⟨d.g, 1, none⟩ = some (.slice d.lA l.length d.lc) := HR.out.blk.cell 1
    have HORD := Lib.hid (put_ord HS.out hk hlo hhi)
    have HSZ := Lib.hid hb.size
    have HFIN := Lib.hid (fun W (hW : Below w.heap.size w W) A c (hO : App.Own W w.heap.size 3 A (l.length + 1) c (LZ (l.take k ++ [(v : Int)] ++ l.drop k))) => (show PutR w B N d s l v (.returned (.tuple #[])) (W.setCell ⟨d.g, 1, none⟩ (.slice A (l.length + 1) c)) from by
      have hlen : (l.take k ++ [(v : Int)] ++ l.drop k).length = l.length + 1 := by
        have := HORD.out.1.length_eq
        simpa using this
      rw [← hlen] at hO ⊢
      refine ⟨rfl, _, H.out.newL HBS.out hW hO (fun x hx => ?_) ?_, HORD.out⟩
      · rcases List.mem_cons.1 (HORD.out.1.mem_iff.1 hx) with rfl | hx
        · have := HV.out; omega
        · exact H.out.rg x hx
      · rw [HORD.out.1.nodup_iff, List.nodup_cons]
        exact ⟨HNO.out, H.out.nd⟩))
    have hle : k + 1 + (l.length - k) = l.length + 1 := by omega
    have hgc := (HR.out.blk.lt)
    clear hlo hhi hb
    have HRT := Lib.hid (show RdV wc d.lA (LZ (l.take k)) by rw [LZ_take]; exact HR.out.lr.rd.take k)
    have hk0 : (0 : Int) ≤ (k : Int) := by omega
    have hk1 : (k : Int) ≤ (l.length : Int) := by omega
    rcases hA : d.lA with _ | a
    · have hnil : l = [] ∧ d.lc = 0 := by
        obtain ⟨_, ⟨_, h2, h3⟩ | ⟨g, e2, _⟩⟩ := HR.out.lr
        · exact ⟨by unfold LZ at h3; simpa using h3, h2⟩
        · rw [hA] at e2; cases e2
      obtain ⟨hl0, hlc⟩ := hnil
      have hL0 : l.length = 0 := by rw [hl0]; rfl
      have hk0 : k = 0 := by omega
      rw [hA, hlc, hL0] at c1
      rw [hl0, hk0] at HFIN
      have HFIN := Lib.hid (show ∀ (W : World), Below w.heap.size w W → ∀ A c, App.Own W w.heap.size 3 A 1 c (LZ [(v : Int)]) → PutR w B N d s l v (.returned (.tuple #[])) (W.setCell ⟨d.g, 1, none⟩ (.slice A 1 c)) from fun W hW A c hO => by
        have := HFIN.out W hW A c hO
        rw [← hl0] at this
        rw [hL0] at this
        exact this)
      have HA := Lib.hid hA
      have HLC := Lib.hid hlc
      have HL0 := Lib.hid hL0
      have HLN := Lib.hid hl0
      subst hk0
      clear hk hle hk1 HRT hA hlc hL0 hl0 HORD hl
      go_upto_region 5 with (at_builtin; refine wpAppZ rfl _ _ rfl w.heap.size none 0 0 [] rfl (App.Own.nil _ _ _) none 0 0 [] rfl rfl (RdV.nil _ _) (fun _ => rfl) (by omega) HSZ.out 0 rfl ?_; intro A1 c1' w1 hO1 hg1)
      have HB1 := Lib.hid (HB.out.trans (grown_below (App.Own.nil _ _ 3) HSZ.out hg1))
      have HO1 := Lib.hid (show App.Own w1 w.heap.size 3 A1 0 c1' (LZ []) from hO1)
      have HO1A := Lib.hid (HO1.out.alloc (.cells #[.int .i64 (v : Int)] 3))
      have HC1 := Lib.hid (show (w1.alloc (.cells #[.int .i64 (v : Int)] 3)).cell? ⟨w1.heap.size, 0, none⟩ = some (.int .i64 (v : Int)) from (Blk.new _ _ _).cell 0)
      have HSZ1 := Lib.hid (show w.heap.size ≤ (w1.alloc (.cells #[.int .i64 (v : Int)] 3)).heap.size by rw [World.size_alloc]; have := HB1.out.size; omega)
      clear hO1 hg1 c1
      go_upto_region 6 with (at_builtin; refine wpAppOne rfl _ _ rfl w.heap.size A1 0 c1' [] rfl HO1A.out w1.heap.size 1 (v : Int) rfl HC1.out (by omega) HSZ1.out ?_; intro A2 c2' w2 hO2 hg2 hA2)
      have HB2 := Lib.hid ((HB1.out.alloc HB1.out.size (.cells #[.int .i64 (v : Int)] 3)).trans (grown_below HO1A.out HSZ1.out hg2))
      have HO2 := Lib.hid (show App.Own w2 w.heap.size 3 A2 1 c2' (LZ [(v : Int)]) from hO2)
      clear hO2 hg2 hA2 HO1 HO1A HC1 HSZ1 HB1
      have c1 : w2.cell? ⟨d.g, 1, none⟩ = some (.slice none 0 0) := by
        have := (H.out.below HB2.out).blk.cell 1
        rw [HA.out, HL0.out, HLC.out] at this
        exact this
      have HSZ2 := Lib.hid HB2.out.size
      go_upto_region 7 with (at_builtin; refine wpAppZ rfl _ _ rfl w.heap.size A2 1 c2' [(v : Int)] rfl HO2.out none 0 0 [] rfl rfl (RdV.nil _ _) (fun _ => rfl) (by omega) HSZ2.out 1 rfl ?_; intro A3 c3' w3 hO3 hg3)
      have HB3 := Lib.hid (HB2.out.trans (grown_below HO2.out HSZ2.out hg3))
      have HO3 := Lib.hid (show App.Own w3 w.heap.size 3 A3 1 c3' (LZ [(v : Int)]) from hO3)
      clear hO3 hg3 c1 HSZ2 HO2
      have c1 : w3.cell? ⟨d.g, 1, none⟩ = some (.slice d.lA l.length d.lc) := (H.out.below HB3.out).blk.cell 1
      have f1 := (H.out.below HB3.out).blk.frozen 1
      go_wp2
      go_end0
      exact HFIN.out _ HB3.out _ _ HO3.out
    · obtain ⟨ga, gea, hrow⟩ : ∃ ga, d.lA = some ⟨ga, 0, none⟩ ∧ Row wc ga 3 (LZ l) d.lc := by
        obtain ⟨_, ⟨e2, _⟩ | ⟨g, e2, _, _, h3⟩⟩ := HR.out.lr
        · rw [hA] at e2; cases e2
        · exact ⟨g, e2, h3⟩
      have hcap := hrow.le
      rw [LZ_len] at hcap
      rw [gea] at c1 HRT
      have HROW := Lib.hid hrow
      have hcap1 : (l.length : Int) ≤ (d.lc : Int) := by omega
      have hcap2 : (k : Int) ≤ (d.lc : Int) := by omega
      have HGEA := Lib.hid gea
      clear hA hrow gea
      generalize hL : l.length = L at *
      have HL := Lib.hid hL
      clear hL
      go_upto_region 5 with (at_builtin; refine wpAppZ rfl _ _ rfl w.heap.size none 0 0 [] rfl (App.Own.nil _ _ _) (some ⟨ga, 0, none⟩) k d.lc (l.take k) rfl (by rw [List.length_take, HL.out]; omega) HRT.out (fun e => by cases e) (by omega) HSZ.out k (by omega) ?_; intro A1 c1' w1 hO1 hg1)
      have HB1 := Lib.hid (HB.out.trans (grown_below (App.Own.nil _ _ 3) HSZ.out hg1))
      have HO1 := Lib.hid (show App.Own w1 w.heap.size 3 A1 k c1' (LZ (l.take k)) from hO1)
      have HO1A := Lib.hid (HO1.out.alloc (.cells #[.int .i64 (v : Int)] 3))
      have HC1 := Lib.hid (show (w1.alloc (.cells #[.int .i64 (v : Int)] 3)).cell? ⟨w1.heap.size, 0, none⟩ = some (.int .i64 (v : Int)) from (Blk.new _ _ _).cell 0)
      have HSZ1 := Lib.hid (show w.heap.size ≤ (w1.alloc (.cells #[.int .i64 (v : Int)] 3)).heap.size by rw [World.size_alloc]; have := HB1.out.size; omega)
      clear hO1 hg1 c1
      go_upto_region 6 with (at_builtin; refine wpAppOne rfl _ _ rfl w.heap.size A1 k c1' (l.take k) rfl HO1A.out w1.heap.size 1 (v : Int) rfl HC1.out (by omega) HSZ1.out ?_; intro A2 c2' w2 hO2 hg2 hA2)
      have HB2 := Lib.hid ((HB1.out.alloc HB1.out.size (.cells #[.int .i64 (v : Int)] 3)).trans (grown_below HO1A.out HSZ1.out hg2))
      have HO2 := Lib.hid hO2
      clear hO2 hg2 hA2 HO1 HO1A HC1 HSZ1 HB1
      have HR2 := Lib.hid (H.out.below HB2.out)
      have c1 : w2.cell? ⟨d.g, 1, none⟩ = some (.slice (some ⟨ga, 0, none⟩) L d.lc) := by
        have := HR2.out.blk.cell 1
        rw [HL.out, HGEA.out] at this
        exact this
      have HDR := Lib.hid (show RdV w2 (some ⟨ga, 0 + k, none⟩) (LZ (l.drop k)) by rw [LZ_drop]; exact RdV.dropB HR2.out.lr.rd HGEA.out)
      rw [Nat.zero_add] at HDR
      have hdl : L - k = (l.drop k).length := by rw [List.length_drop, HL.out]
      have HDL := Lib.hid hdl
      clear hdl
      have HSZ2 := Lib.hid HB2.out.size
      by_cases hkc : k < d.lc
      · have hkc1 : (k : Int) < (d.lc : Int) := by omega
        go_upto_region 7 with (at_builtin; refine wpAppZ rfl _ _ rfl w.heap.size A2 (k + 1) c2' (l.take k ++ [(v : Int)]) rfl HO2.out (some ⟨ga, k, none⟩) (L - k) (d.lc - k) (l.drop k) rfl HDL.out HDR.out (fun e => by cases e) (by omega) HSZ2.out (L + 1) (by omega) ?_; intro A3 c3' w3 hO3 hg3)
        have HB3 := Lib.hid (HB2.out.trans (grown_below HO2.out HSZ2.out hg3))
        have HO3 := Lib.hid hO3
        clear hO3 hg3 c1 HSZ2 HO2
        have f1 := (H.out.below HB3.out).blk.frozen 1
        have c1 : w3.cell? ⟨d.g, 1, none⟩ = some (.slice d.lA l.length d.lc) := (H.out.below HB3.out).blk.cell 1
        go_wp2
        go_end0
        exact HFIN.out _ HB3.out _ _ HO3.out
      · have hkc1 : ¬ (k : Int) < (d.lc : Int) := by omega
        have HNIL := Lib.hid (show l.drop k = [] from List.drop_of_length_le (by rw [HL.out]; omega))
        have HDR0 := Lib.hid (show RdV w2 (some ⟨ga, 0, none⟩) (LZ (l.drop k)) by rw [HNIL.out]; exact RdV.nil _ _)
        go_upto_region 7 with (at_builtin; refine wpAppZ rfl _ _ rfl w.heap.size A2 (k + 1) c2' (l.take k ++ [(v : Int)]) rfl HO2.out (some ⟨ga, 0, none⟩) (L - k) (d.lc - k) (l.drop k) rfl HDL.out HDR0.out (fun e => by cases e) (by omega) HSZ2.out (L + 1) (by omega) ?_; intro A3 c3' w3 hO3 hg3)
        have HB3 := Lib.hid (HB2.out.trans (grown_below HO2.out HSZ2.out hg3))
        have HO3 := Lib.hid hO3
        clear hO3 hg3 c1 HSZ2 HO2
        have f1 := (H.out.below HB3.out).blk.frozen 1
        have c1 : w3.cell? ⟨d.g, 1, none⟩ = some (.slice d.lA l.length d.lc) := (H.out.below HB3.out).blk.cell 1
        go_wp2
        go_end0
        exact HFIN.out _ HB3.out _ _ HO3.out
end Go.Proofs.Ytienomdennbkpaa.He
