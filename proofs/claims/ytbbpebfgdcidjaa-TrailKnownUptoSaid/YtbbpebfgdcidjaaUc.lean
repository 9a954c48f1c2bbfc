/- The document's trail: Decide, Assign: what they answer and leave. Conditions: the bounds DOk, the memory. -/
import Derived.Test.YtbbpebfgdcidjaaUb
import Derived.Deep.AppendLies
namespace Go.Proofs.Ytbbpebfgdcidjaa.Ta
open Go.RowKit Go.Proofs.Ytbbpebfgdcidjaa.Mem Go.Proofs.Ytbbpebfgdcidjaa.Sl Go.Proofs.Ytbbpebfgdcidjaa.Cl Go.Proofs.Ytbbpebfgdcidjaa.App Go.Shelf
open Go.Proofs.Ytbbpebfgdcidjaa.FnL (enc_at below_then)
set_option linter.unusedVariables false

theorem one_fl {row : List Ent} : ∀ u ∈ fl row, u.oneCell' = true := fun u hu => by
  obtain ⟨e, _, he⟩ := List.mem_flatMap.1 hu
  unfold en at he
  rcases List.mem_cons.1 he with rfl | he
  · rfl
  · rcases List.mem_cons.1 he with rfl | he
    · rfl
    · rcases List.mem_cons.1 he with rfl | he
      · rfl
      · cases he
theorem stepAppE {w : World} {ops : Array Oper} {o : Oper} {a : Act} {K : Act → World → Prop} {Q : Exit → Act → World → Prop} {E : Prop} (hgd : o.guard = none) (s x : Operand)
    (ho : o.op = .call { callee := .builtin .append, args := #[s, x], argTypes := #[76, 76] })
    (base : Nat) (A : Option Addr) (c : Nat) (row : List Ent) (hs : a.eval s = .slice A row.length c) (hown : ER w base A c row)
    (g1 : Nat) (e : Ent) (hx : a.eval x = .slice (some ⟨g1, 0, none⟩) 1 1) (hb : Blk w g1 85 (en e).toArray)
    (h63 : row.length ≤ 4000000) (hbase : base ≤ w.heap.size) (H : Nat) (hH : w.heap.size = H)
    (h : ∀ g c' w', ER w' base (some ⟨g, 0, none⟩) c' (row ++ [e]) → Mem.Mod (fun i => A = some ⟨i, 0, none⟩) w w' → (A = some ⟨g, 0, none⟩ ∨ g = H) → K (a.put o.dst (.slice (some ⟨g, 0, none⟩) (row.length + 1) c')) w') :
    if Region.wanted o (yielded ops a.tmps) = true then Oper.wp Try.prog o a w K Q else E := by
  obtain ⟨i0, hi⟩ := Option.isSome_iff_exists.1 (show (Try.prog.info? 85).isSome = true by kernel_rfl)
  have hz : (Try.prog.info? 85).map (fun i => (i.zero, i.size, i.bytes)) = some (some (.agg #[.int .i32 0, .int .i64 0, .int .i64 0]), 3, 24) := by kernel_rfl
  rw [hi] at hz
  injection hz with hz
  injection hz with hz0 hz
  injection hz with hz1 hz2
  refine step_append_lies w hgd s x 76 ho base 85 i0 (.agg #[.int .i32 0, .int .i64 0, .int .i64 0]) 3 24 Try.underlying76 hi hz0 hz1 hz2 rfl (by decide) (.slice A row.length c) row.length (fl row) hs hown.own ⟨g1, 0, none⟩ 1 1 (fl [e]) hx rfl (fun j u hj => ?_) one_fl (by decide) (by unfold maxLen; omega) (by omega) hbase H hH (fun g cap w' h1 h2 h3 h4 => ?_)
  · refine World.news_of_block hb j u ?_
    rw [← hj]; rfl
  · obtain ⟨A', c', e', hO⟩ := ER.of (row := row ++ [e]) (by rw [fl_append]; exact h1)
    have e2 : (row ++ [e]).length = row.length + 1 := by simp
    rw [e2] at e'
    cases e'
    exact h g cap w' hO ((Mod.grown h2).mono fun i _ e => own_mine e hown.plain) (by
      rcases h3 with h3 | h3
      · left
        unfold Value.ownBlock at h3
        rcases A with _ | ad
        · cases h3
        · obtain ⟨p1, p2⟩ := hown.plain ad rfl
          obtain ⟨b, o, s⟩ := ad
          simp at p1 p2 h3
          subst p1 p2 h3; rfl
      · exact .inr h3)
theorem app_fin {w1 : World} {base g : Nat} {d : DM} {A : Option Addr} {c : Nat} (h : DrS w1 base g d A c) (e : Ent) (gA c' : Nat) (w2 : World) (hO : ER w2 base (some ⟨gA, 0, none⟩) c' (d.row ++ [e]))
    (hM : Mem.Mod (fun i => A = some ⟨i, 0, none⟩) ((w1.alloc (.cells (en e).toArray 85)).drew) w2) (hw : A = some ⟨gA, 0, none⟩ ∨ gA = w1.heap.size + 1) :
    w2.cell? ⟨g, 1, none⟩ = some (.slice A d.row.length c) ∧ w2.frozen? ⟨g, 1, none⟩ = false ∧ DrS (w2.setCell ⟨g, 1, none⟩ (.slice (some ⟨gA, 0, none⟩) (d.row.length + 1) c')) base g { d with row := d.row ++ [e] } (some ⟨gA, 0, none⟩) c' ∧
    DStep g A (some ⟨gA, 0, none⟩) w1 (w2.setCell ⟨g, 1, none⟩ (.slice (some ⟨gA, 0, none⟩) (d.row.length + 1) c')) := by
  have HBA : Below w1.heap.size w1 (w1.alloc (.cells (en e).toArray 85)).drew := (((Below.refl _ w1).alloc (Nat.le_refl _) _).drew)
  have HA := h.below HBA
  have hb2 := HA.blk.mod hM (HA.rows.ne_blk HA.blk (by decide))
  have hm3 : Mem.Mod (fun i => i = g) w2 (w2.setCell ⟨g, 1, none⟩ (.slice (some ⟨gA, 0, none⟩) (d.row.length + 1) c')) := Mem.Mod.setCell (Mem.Mod.refl (fun i => i = g) _) (p := ⟨g, 1, none⟩) (.inl rfl) _
  have hnA := hO.ne_blk hb2 (by decide)
  have hlen : (d.row ++ [e]).length = d.row.length + 1 := by simp
  refine ⟨hb2.cell 1, hb2.frozen 1, ⟨?_, hO.mod hm3 (fun i _ e hi => hnA (by rw [e, hi])), h.bg⟩, ?_, ?_⟩
  · show Blk _ g _ #[.int .i64 d.N, .slice (some ⟨gA, 0, none⟩) (d.row ++ [e]).length c', .int .i64 d.top, .int .i64 d.head]
    rw [hlen]
    have := hb2.set_ 1 (.slice (some ⟨gA, 0, none⟩) (d.row.length + 1) c')
    simpa using this
  · exact ((Mem.Mod.none_ HBA _).then_ (hM.mono fun i _ e => .inr e)).then_ (hm3.mono fun i _ e => .inl e)
  · rintro i hi (h | h)
    · exact .inl h
    · cases h
      rcases hw with h | h
      · exact .inr h
      · omega
/-- The trail d' behind a call. -/
def DAft (w : World) (base g : Nat) (A : Option Addr) (d' : DM) (w' : World) : Prop := ∃ A' c', DrS w' base g d' A' c' ∧ DStep g A A' w w'
def rdecD (d : DM) (l : Int) : DM := if mayD d l = 0 then { d with row := d.row ++ [(l, (d.top : Int) + 1, -1)], top := d.top + 1 } else d
def rasgE (d : DM) (l r : Int) : Int := if mayD d l ≠ 4 ∧ r < -1 then 160 else mayD d l
def rasgD (d : DM) (l r : Int) : DM := if rasgE d l r = 0 then { d with row := d.row ++ [(l, (d.top : Int), r)] } else d
set_option maxRecDepth 100000 in
theorem rdecide_any {base g c : Nat} {d : DM} {A : Option Addr} {w : World} (h : DrS w base g d A c) (ok : DOk d) (hln : d.row.length ≤ 999999) (htp : d.top ≤ 999999) (l : Int) (h0 : -2147483648 ≤ l) (h1 : l ≤ 2147483647) :
    Calls Try.prog 39 #[.pointer (some ⟨g, 0, none⟩), .int .i32 l] w fun e w' => e = .returned (.int .i64 (mayD d l)) ∧ DAft w base g A (rdecD d l) w' := by
  have HC := Lib.hid (rmay_any h ok l h0 h1)
  have H := Lib.hid h
  have HD := Lib.hid (show rdecD d l = if mayD d l = 0 then { d with row := d.row ++ [(l, (d.top : Int) + 1, -1)], top := d.top + 1 } else d from rfl)
  clear h ok
  generalize mayD d l = er at *
  go_enter Try.func39, Try.ntmps39
  go_wp2_with fail
  refine HC.out.mono ?_
  rintro e w1 ⟨rfl, hb1⟩
  have HB1 := Lib.hid hb1
  have H1 := Lib.hid (H.out.below hb1)
  clear hb1 HC
  by_cases p : er = 0
  · have HDE := Lib.hid (HD.out.trans (if_pos p))
    subst p
    have t0 : w1.cell? ⟨g, 2, none⟩ = some (.int .i64 (d.top : Int)) := H1.out.blk.cell 2
    have t1 : w1.frozen? ⟨g, 2, none⟩ = false := H1.out.blk.frozen 2
    have e1 : IntKind.i64.wrap ((d.top : Int) + 1) = (d.top : Int) + 1 := IntWalk.i64_in _ (by omega)
    go_upto_region 4 with (fail)
    obtain ⟨W2, hW2⟩ : ∃ W2, W2 = w1.setCell ⟨g, 2, none⟩ (.int .i64 ((d.top : Int) + 1)) := ⟨_, rfl⟩
    rw [← hW2]
    have HM2 := Lib.hid (show Mem.Mod (fun i => i = g) w1 W2 from hW2 ▸ Mem.Mod.setCell (Mem.Mod.refl (fun i => i = g) _) (p := ⟨g, 2, none⟩) (.inl rfl) _)
    have H2 := Lib.hid (show DrS W2 base g { d with top := d.top + 1 } A c from ⟨by
      have := H1.out.blk.set_ 2 (.int .i64 ((d.top : Int) + 1))
      rw [hW2]; simpa using this, H1.out.rows.mod HM2.out (fun i _ e hi => H1.out.rows.ne_blk H1.out.blk (by decide) (by rw [e, hi])), H1.out.bg⟩)
    have HS2 := Lib.hid (show DStep g A A w W2 from ⟨(Mem.Mod.none_ HB1.out _).then_ (HM2.out.mono fun i _ e => .inl e), fun _ _ h => h⟩)
    clear hW2 t0 t1
    have q1 : W2.cell? ⟨g, 1, none⟩ = some (.slice A d.row.length c) := H2.out.blk.cell 1
    have q2 : W2.cell? ⟨g, 2, none⟩ = some (.int .i64 ((d.top : Int) + 1)) := by have : W2.cell? ⟨g, 2, none⟩ = some (.int .i64 ((d.top + 1 : Nat) : Int)) := H2.out.blk.cell 2; simpa using this
    have hbw : base ≤ W2.heap.size := Nat.le_trans H2.out.bg (Nat.le_of_lt H2.out.blk.lt)
    have HBA := Lib.hid (show Below W2.heap.size W2 (W2.alloc (.cells #[.int .i32 l, .int .i64 ((d.top : Int) + 1), .int .i64 (-1)] 85)).drew from (((Below.refl _ W2).alloc (Nat.le_refl _) _).drew))
    have HA := Lib.hid (H2.out.below HBA.out)
    have HSZ := Lib.hid (show (W2.alloc (.cells #[.int .i32 l, .int .i64 ((d.top : Int) + 1), .int .i64 (-1)] 85)).drew.heap.size = W2.heap.size + 1 by show (W2.alloc _).heap.size = _; simp)
    have HOR := Lib.hid (show Blk (W2.alloc (.cells #[.int .i32 l, .int .i64 ((d.top : Int) + 1), .int .i64 (-1)] 85)).drew W2.heap.size 85 (en (l, (d.top : Int) + 1, -1)).toArray from Blk.new W2 _ _)
    have hbw1 : base ≤ ((W2.alloc (.cells #[.int .i32 l, .int .i64 ((d.top : Int) + 1), .int .i64 (-1)] 85)).drew).heap.size := by have := HSZ.out; omega
    have HFIN := Lib.hid (fun (gA c' : Nat) (w2 : World) hO hM hw => app_fin H2.out (l, (d.top : Int) + 1, -1) gA c' w2 hO hM hw)
    have q3 : (W2.alloc (.cells #[.int .i32 l, .int .i64 ((d.top : Int) + 1), .int .i64 (-1)] 85)).cell? ⟨g, 1, none⟩ = some (.slice A d.row.length c) := HA.out.blk.cell 1
    have q4 : (W2.alloc (.cells #[.int .i32 l, .int .i64 ((d.top : Int) + 1), .int .i64 (-1)] 85)).drew.cell? ⟨g, 1, none⟩ = some (.slice A d.row.length c) := HA.out.blk.cell 1
    go_region_law ((refine stepAppE (by rfl) _ _ (by rfl) base A c d.row (by rfl) HA.out.rows W2.heap.size (l, (d.top : Int) + 1, -1) (by rfl) HOR.out (by omega) hbw1 (W2.heap.size + 1) HSZ.out ?_; intro gA c' w2 hO hM hwh; obtain ⟨k5, k6, k7, k8⟩ := HFIN.out gA c' w2 hO hM hwh; have HT := Lib.hid k7; have HS := Lib.hid k8; clear hO hM hwh k7 k8))
    all_goals clear q1 q2 q3 q4
    all_goals go_wp2
    all_goals go_ret
    all_goals exact ⟨rfl, by rw [HDE.out]; exact ⟨_, _, HT.out, HS2.out.trans HS.out⟩⟩
  · have HDE := Lib.hid (HD.out.trans (if_neg p))
    have hp : (er == 0) = false := by simpa using p
    go_wp2
    go_ret
    exact ⟨rfl, by rw [HDE.out]; exact ⟨A, c, H1.out, DStep.of_below g A HB1.out⟩⟩
set_option maxRecDepth 100000 in
theorem rassign_any {base g c : Nat} {d : DM} {A : Option Addr} {w : World} (h : DrS w base g d A c) (ok : DOk d) (hln : d.row.length ≤ 999999) (l r : Int) (h0 : -2147483648 ≤ l) (h1 : l ≤ 2147483647) :
    Calls Try.prog 40 #[.pointer (some ⟨g, 0, none⟩), .int .i32 l, .int .i64 r] w fun e w' => e = .returned (.int .i64 (rasgE d l r)) ∧ DAft w base g A (rasgD d l r) w' := by
  have HC := Lib.hid (rmay_any h ok l h0 h1)
  have H := Lib.hid h
  have HE := Lib.hid (show rasgE d l r = if mayD d l ≠ 4 ∧ r < -1 then 160 else mayD d l from rfl)
  have HD := Lib.hid (show rasgD d l r = if rasgE d l r = 0 then { d with row := d.row ++ [(l, (d.top : Int), r)] } else d from rfl)
  clear h ok
  generalize mayD d l = er at *
  go_enter Try.func40, Try.ntmps40
  go_wp2_with fail
  refine HC.out.mono ?_
  rintro e w1 ⟨rfl, hb1⟩
  have HB1 := Lib.hid hb1
  have H1 := Lib.hid (H.out.below hb1)
  clear hb1 HC
  by_cases p1 : er ≠ 4 ∧ r < -1
  · have HR := Lib.hid (HE.out.trans (if_pos p1))
    have HDE := Lib.hid (HD.out.trans (if_neg (by rw [HR.out]; decide)))
    obtain ⟨p2, p3⟩ := p1
    have hp : (er == 4) = false := by simpa using p2
    go_wp2
    go_ret
    exact ⟨by rw [HR.out]; rfl, by rw [HDE.out]; exact ⟨A, c, H1.out, DStep.of_below g A HB1.out⟩⟩
  · have HR := Lib.hid (HE.out.trans (if_neg p1))
    by_cases p : er = 0
    · have HDE := Lib.hid (HD.out.trans (if_pos (HR.out.trans p)))
      have p3 : ¬ r < -1 := fun e => p1 ⟨by rw [p]; decide, e⟩
      clear p1
      subst p
      have q1 : w1.cell? ⟨g, 1, none⟩ = some (.slice A d.row.length c) := H1.out.blk.cell 1
      have q2 : w1.cell? ⟨g, 2, none⟩ = some (.int .i64 (d.top : Int)) := H1.out.blk.cell 2
      have hbw : base ≤ w1.heap.size := Nat.le_trans H1.out.bg (Nat.le_of_lt H1.out.blk.lt)
      have HBA := Lib.hid (show Below w1.heap.size w1 (w1.alloc (.cells #[.int .i32 l, .int .i64 (d.top : Int), .int .i64 r] 85)).drew from (((Below.refl _ w1).alloc (Nat.le_refl _) _).drew))
      have HA := Lib.hid (H1.out.below HBA.out)
      have HSZ := Lib.hid (show (w1.alloc (.cells #[.int .i32 l, .int .i64 (d.top : Int), .int .i64 r] 85)).drew.heap.size = w1.heap.size + 1 by show (w1.alloc _).heap.size = _; simp)
      have HOR := Lib.hid (show Blk (w1.alloc (.cells #[.int .i32 l, .int .i64 (d.top : Int), .int .i64 r] 85)).drew w1.heap.size 85 (en (l, (d.top : Int), r)).toArray from Blk.new w1 _ _)
      have hbw1 : base ≤ ((w1.alloc (.cells #[.int .i32 l, .int .i64 (d.top : Int), .int .i64 r] 85)).drew).heap.size := by have := HSZ.out; omega
      have HFIN := Lib.hid (fun (gA c' : Nat) (w2 : World) hO hM hw => app_fin H1.out (l, (d.top : Int), r) gA c' w2 hO hM hw)
      have q3 : (w1.alloc (.cells #[.int .i32 l, .int .i64 (d.top : Int), .int .i64 r] 85)).cell? ⟨g, 1, none⟩ = some (.slice A d.row.length c) := HA.out.blk.cell 1
      have q4 : (w1.alloc (.cells #[.int .i32 l, .int .i64 (d.top : Int), .int .i64 r] 85)).drew.cell? ⟨g, 1, none⟩ = some (.slice A d.row.length c) := HA.out.blk.cell 1
      go_upto_region 5 with (fail)
      go_region_law ((refine stepAppE (by rfl) _ _ (by rfl) base A c d.row (by rfl) HA.out.rows w1.heap.size (l, (d.top : Int), r) (by rfl) HOR.out (by omega) hbw1 (w1.heap.size + 1) HSZ.out ?_; intro gA c' w2 hO hM hwh; obtain ⟨k5, k6, k7, k8⟩ := HFIN.out gA c' w2 hO hM hwh; have HT := Lib.hid k7; have HS := Lib.hid k8; clear hO hM hwh k7 k8))
      all_goals clear q1 q2 q3 q4
      all_goals go_wp2
      all_goals go_ret
      all_goals exact ⟨by rw [HR.out]; rfl, by rw [HDE.out]; exact ⟨_, _, HT.out, (DStep.of_below g A HB1.out).trans HS.out⟩⟩
    · have HDE := Lib.hid (HD.out.trans (if_neg (by rw [HR.out]; exact p)))
      have hp : (er == 0) = false := by simpa using p
      by_cases p4 : er = 4
      · have hR4 : rasgE d l r = 4 := HR.out.trans p4
        have HR4 := Lib.hid hR4
        clear hR4
        subst p4
        clear p1
        go_wp2
        go_ret
        exact ⟨by rw [HR4.out]; rfl, by rw [HDE.out]; exact ⟨A, c, H1.out, DStep.of_below g A HB1.out⟩⟩
      · have p5 : ¬ r < -1 := fun e => p1 ⟨p4, e⟩
        have hp4 : (er == 4) = false := by simpa using p4
        clear p1
        go_wp2
        go_ret
        exact ⟨by rw [HR.out]; rfl, by rw [HDE.out]; exact ⟨A, c, H1.out, DStep.of_below g A HB1.out⟩⟩
end Go.Proofs.Ytbbpebfgdcidjaa.Ta
