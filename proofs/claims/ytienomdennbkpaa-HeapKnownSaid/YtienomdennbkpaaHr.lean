/- The document's heap: Push, Remove, Pop. Conditions: the memory. -/
import Derived.Test.YtienomdennbkpaaHq
namespace Go.Proofs.Ytienomdennbkpaa.He
open Go.RowKit Go.Proofs.Ytienomdennbkpaa.Mem Go.Proofs.Ytienomdennbkpaa.Sl Go.Shelf
open Go.Proofs.Ytienomdennbkpaa.FnL (enc_at below_then)
set_option linter.unusedVariables false

abbrev Srt (s l : List Int) : Prop := l.Pairwise fun a b => kf s a < kf s b
/-- The document's heap behind a call: those of L in it, in order. -/
def DNext (w : World) (B N : Nat) (d : DA) (s L : List Int) (w' : World) : Prop := ∃ l', NextD w B N d s l' w' ∧ Ord s l' L
theorem RH.dnext {w : World} {B N : Nat} {d : DA} {s l : List Int} (h : RH w B N d s l) (hs : Srt s l) : DNext w B N d s l w := ⟨l, h.next, List.Perm.refl _, hs⟩
theorem dpush_any {w : World} {B N : Nat} {d : DA} {s l : List Int} (h : RH w B N d s l) (hs : Srt s l) (hB : B ≤ w.heap.size) (v : Int) :
    Calls Try.prog 44 #[.pointer (some ⟨d.g, 0, none⟩), .int .i64 v] w fun e w' => e = .returned (.int .i64 (pushE N l v)) ∧ DNext w B N d s (pushL N l v) w' := by
  have HI := Lib.hid (dis_any h v)
  have HH := Lib.hid (dhas_any h v)
  have HX := Lib.hid (h.dnext hs)
  by_cases h1 : 1 ≤ v ∧ v ≤ N
  · have hb : isB N v = true := decide_eq_true h1
    by_cases hm : v ∈ l
    · have HE := Lib.hid (show pushE N l v = 6 ∧ pushL N l v = l by unfold pushE pushL; rw [if_pos hb, if_pos hm, if_pos hb, if_pos hm]; exact ⟨rfl, rfl⟩)
      rw [hb] at HI
      rw [decide_eq_true hm] at HH
      clear h hm hb h1 hs
      go_enter Try.func44, Try.ntmps44
      go_wp2_with fail
      refine HI.out.mono ?_
      rintro e w1 ⟨rfl, rfl⟩
      go_wp2_with fail
      refine HH.out.mono ?_
      rintro e w1 ⟨rfl, rfl⟩
      go_wp2
      go_ret
      rw [HE.out.1, HE.out.2]
      exact ⟨rfl, HX.out⟩
    · have HE := Lib.hid (show pushE N l v = 0 ∧ pushL N l v = l ++ [v] by unfold pushE pushL; rw [if_pos hb, if_neg hm, if_pos hb, if_neg hm]; exact ⟨rfl, rfl⟩)
      rw [hb] at HI
      rw [decide_eq_false hm] at HH
      obtain ⟨u, rfl⟩ : ∃ u : Nat, v = u := ⟨v.toNat, by omega⟩
      have HP := Lib.hid (put_any h hB hs u ⟨by omega, by omega⟩ hm)
      clear h hm hb h1 hs HX
      go_enter Try.func44, Try.ntmps44
      go_wp2_with fail
      refine HI.out.mono ?_
      rintro e w1 ⟨rfl, rfl⟩
      go_wp2_with fail
      refine HH.out.mono ?_
      rintro e w1 ⟨rfl, rfl⟩
      go_wp2_with fail
      refine HP.out.mono ?_
      rintro e w2 ⟨rfl, l', k1, k2⟩
      have HN := Lib.hid (show DNext w B N d s (l ++ [(u : Int)]) w2 from ⟨l', k1, k2.1.trans (List.perm_append_comm (l₁ := [(u : Int)]) (l₂ := l)), k2.2⟩)
      clear k1 k2
      go_wp2
      go_ret
      rw [HE.out.1, HE.out.2]
      exact ⟨rfl, HN.out⟩
  · have hb : isB N v = false := decide_eq_false h1
    have HE := Lib.hid (show pushE N l v = 2 ∧ pushL N l v = l by unfold pushE pushL; rw [hb]; exact ⟨rfl, rfl⟩)
    rw [hb] at HI
    clear h hb h1 hs
    go_enter Try.func44, Try.ntmps44
    go_wp2_with fail
    refine HI.out.mono ?_
    rintro e w1 ⟨rfl, rfl⟩
    go_wp2
    go_ret
    rw [HE.out.1, HE.out.2]
    exact ⟨rfl, HX.out⟩
def wo (v : Int) (l : List Int) : List Int := l.filter fun x => x != v
theorem wo_snoc (v : Int) (l : List Int) {k : Nat} (h : k < l.length) : wo v (l.take (k + 1)) = if l.getD k 0 = v then wo v (l.take k) else wo v (l.take k) ++ [l.getD k 0] := by
  have h1 : l.take (k + 1) = l.take k ++ [l.getD k 0] := by
    rw [List.take_add_one, List.getElem?_eq_getElem h, List.getD_eq_getElem?_getD, List.getElem?_eq_getElem h]; rfl
  rw [h1]
  unfold wo
  rw [List.filter_append]
  by_cases hv : l.getD k 0 = v
  · rw [if_pos hv, hv]; simp
  · rw [if_neg hv, show [l.getD k 0].filter (fun x => x != v) = [l.getD k 0] by rw [List.filter_cons_of_pos (by simpa using hv)]; rfl]
theorem wo_len (v : Int) (l : List Int) : (wo v l).length ≤ l.length := List.length_filter_le _ _
theorem wo_erase {l : List Int} (h : l.Nodup) (v : Int) : wo v l = l.erase v := (h.erase_eq_filter v).symm
set_option maxRecDepth 100000 in
set_option maxHeartbeats 1000000 in
theorem drem_any {w : World} {B N : Nat} {d : DA} {s l : List Int} (h : RH w B N d s l) (hs : Srt s l) (hB : B ≤ w.heap.size) (v : Int) :
    Calls Try.prog 42 #[.pointer (some ⟨d.g, 0, none⟩), .int .i64 v] w fun e w' => e = .returned (.int .i64 (remE N l v)) ∧ DNext w B N d s (l.erase v) w' := by
  have HI := Lib.hid (dis_any h v)
  have HH := Lib.hid (dhas_any h v)
  have HX := Lib.hid (h.dnext hs)
  by_cases h1 : 1 ≤ v ∧ v ≤ N
  · have hb : isB N v = true := decide_eq_true h1
    by_cases hm : v ∈ l
    · have HE := Lib.hid (show remE N l v = 0 by unfold remE; rw [if_pos hb, if_pos hm])
      rw [hb] at HI
      rw [decide_eq_true hm] at HH
      have H := Lib.hid h
      have hN := h.hN
      have hl := h.lenN
      have HBS := Lib.hid hB
      have HFIN := Lib.hid (fun W (hW : Below w.heap.size w W) A c (hO : App.Own W w.heap.size 3 A (wo v l).length c (LZ (wo v l))) => (show DNext w B N d s (l.erase v) (W.setCell ⟨d.g, 1, none⟩ (.slice A (wo v l).length c)) from
        ⟨wo v l, h.newL hB hW hO (fun x hx => h.rg x (List.mem_filter.1 hx).1) (h.nd.filter _), by rw [wo_erase h.nd], hs.filter _⟩))
      clear h hm hb h1 hs HX hB
      go_enter Try.func42, Try.ntmps42
      go_wp2_with fail
      refine HI.out.mono ?_
      rintro e w1 ⟨rfl, rfl⟩
      go_wp2_with fail
      refine HH.out.mono ?_
      rintro e w1 ⟨rfl, rfl⟩
      go_wp2_with fail
      go_loopw [5, 6] (fun a i wr => ∃ (k n c : Nat) (A : Option Addr), k ≤ l.length ∧ i = .int .i64 k ∧ a = .slice A n c ∧ n = (wo v (l.take k)).length ∧ App.Own wr w.heap.size 3 A n c (LZ (wo v (l.take k))) ∧ Below w.heap.size w wr) (fun _ i _ => l.length - (intOf i).toNat)
      case atStart => exact ⟨0, 0, 0, none, Nat.zero_le _, rfl, rfl, rfl, App.Own.nil _ _ _, Below.refl _ _⟩
      case round =>
        obtain ⟨k, n, c, A, hk, rfl, rfl, hn, hO, hbw⟩ := hrel
        have HO := Lib.hid hO
        have HB := Lib.hid hbw
        have HN := Lib.hid hn
        have hnb : n ≤ 1048576 := by
          have := wo_len v (l.take k)
          rw [List.length_take] at this
          omega
        have c1 : wr.cell? ⟨d.g, 1, none⟩ = some (.slice d.lA l.length d.lc) := (H.out.below hbw).blk.cell 1
        clear hO hbw hn
        by_cases hlt : k < l.length
        · obtain ⟨a, eA, ca⟩ := (H.out.below HB.out).at_ hlt
          rw [eA] at c1
          have hlt1 : (k : Int) < (l.length : Int) := by omega
          have HWS := Lib.hid (wo_snoc v l hlt)
          clear eA
          generalize hx : l.getD k 0 = x at *
          have HXX := Lib.hid hx
          clear hx
          by_cases hxv : x = v
          · rw [if_pos hxv] at HWS
            subst hxv
            go_wp2
            go_roundw
            case rel => exact ⟨k + 1, n, c, A, by omega, by go_num, rfl, by rw [HWS.out]; exact HN.out, by rw [HWS.out]; exact HO.out, HB.out⟩
            case measure => simp [intOf]; omega
          · rw [if_neg hxv] at HWS
            have HOA := Lib.hid (HO.out.alloc (.cells #[.int .i64 x] 3))
            have HC1 := Lib.hid (show (wr.alloc (.cells #[.int .i64 x] 3)).cell? ⟨wr.heap.size, 0, none⟩ = some (.int .i64 x) from (Blk.new _ _ _).cell 0)
            have HSZ := Lib.hid (show w.heap.size ≤ (wr.alloc (.cells #[.int .i64 x] 3)).heap.size by rw [World.size_alloc]; have := HB.out.size; omega)
            go_wp2_with (at_builtin; refine wpAppOne rfl _ _ rfl w.heap.size A n c (wo v (l.take k)) rfl HOA.out wr.heap.size 1 x rfl HC1.out (by omega) HSZ.out ?_; intro A2 c2' w2 hO2 hg2 hA2; have HO2 := Lib.hid hO2; have HB2 := Lib.hid ((HB.out.alloc HB.out.size (.cells #[.int .i64 x] 3)).trans (grown_below HOA.out HSZ.out hg2)); clear hO2 hg2 hA2)
            go_roundw
            case rel => exact ⟨k + 1, n + 1, c2', A2, by omega, by go_num, rfl, by rw [HWS.out, List.length_append, ← HN.out]; rfl, by rw [HWS.out]; exact HO2.out, HB2.out⟩
            case measure => simp [intOf]; omega
        · have hlt1 : ¬ (k : Int) < (l.length : Int) := by omega
          have HK := Lib.hid (show l.take k = l from List.take_of_length_le (by omega))
          have f1 := (H.out.below HB.out).blk.frozen 1
          rw [HK.out] at HN HO
          go_wp2
          go_ret
          rw [HE.out]
          have hfin := HFIN.out _ HB.out A c (HN.out ▸ HO.out)
          rw [← HN.out] at hfin
          exact ⟨rfl, hfin⟩
    · have HE := Lib.hid (show remE N l v = 5 ∧ l.erase v = l from ⟨by unfold remE; rw [if_pos hb, if_neg hm], List.erase_of_not_mem hm⟩)
      rw [hb] at HI
      rw [decide_eq_false hm] at HH
      clear h hm hb h1 hs
      go_enter Try.func42, Try.ntmps42
      go_wp2_with fail
      refine HI.out.mono ?_
      rintro e w1 ⟨rfl, rfl⟩
      go_wp2_with fail
      refine HH.out.mono ?_
      rintro e w1 ⟨rfl, rfl⟩
      go_wp2
      go_ret
      rw [HE.out.1, HE.out.2]
      exact ⟨rfl, HX.out⟩
  · have hb : isB N v = false := decide_eq_false h1
    have HE := Lib.hid (show remE N l v = 2 ∧ l.erase v = l from ⟨by unfold remE; rw [hb]; rfl, List.erase_of_not_mem (fun hm => h1 (h.rg v hm))⟩)
    rw [hb] at HI
    clear h hb h1 hs
    go_enter Try.func42, Try.ntmps42
    go_wp2_with fail
    refine HI.out.mono ?_
    rintro e w1 ⟨rfl, rfl⟩
    go_wp2
    go_ret
    rw [HE.out.1, HE.out.2]
    exact ⟨rfl, HX.out⟩
theorem dpop_any {w : World} {B N : Nat} {d : DA} {s l : List Int} (h : RH w B N d s l) (hs : Srt s l) (hB : B ≤ w.heap.size) :
    Calls Try.prog 41 #[.pointer (some ⟨d.g, 0, none⟩)] w fun e w' => e = .returned (.tuple #[.int .i64 (l.getD 0 0), .bool (decide (0 < l.length))]) ∧ DNext w B N d s (l.erase (l.getD 0 0)) w' := by
  have HT := Lib.hid (dtop_any h)
  have HR := Lib.hid (drem_any h hs hB (l.getD 0 0))
  by_cases hp : 0 < l.length
  · rw [decide_eq_true hp] at HT ⊢
    clear h hs hp
    generalize l.getD 0 0 = x at *
    generalize remE N l x = z at *
    go_enter Try.func41, Try.ntmps41
    go_wp2_with fail
    refine HT.out.mono ?_
    rintro e w1 ⟨rfl, rfl⟩
    go_wp2_with fail
    refine HR.out.mono ?_
    rintro e w1 ⟨rfl, h1⟩
    have HN := Lib.hid h1
    clear h1
    go_wp2
    go_ret2
    exact ⟨rfl, HN.out⟩
  · have h0 : l = [] := List.eq_nil_of_length_eq_zero (by omega)
    have HX := Lib.hid (h.dnext hs)
    rw [decide_eq_false hp] at HT ⊢
    subst h0
    clear h hp hs HR
    go_enter Try.func41, Try.ntmps41
    go_wp2_with fail
    refine HT.out.mono ?_
    rintro e w1 ⟨rfl, rfl⟩
    go_wp2
    go_ret2
    exact ⟨rfl, HX.out⟩
end Go.Proofs.Ytienomdennbkpaa.He
