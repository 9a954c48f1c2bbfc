/- A call of the trail and of the document's trail, side by side: both answer alike. Conditions: the bounds, the memory, a row of at most a million numbers. -/
import Derived.Test.YtbbpebfgdcidjaaUk
namespace Go.Proofs.Ytbbpebfgdcidjaa.Ta
open Go.RowKit Go.Proofs.Ytbbpebfgdcidjaa.Mem Go.Proofs.Ytbbpebfgdcidjaa.Sl Go.Proofs.Ytbbpebfgdcidjaa.Cl Go.Proofs.Ytbbpebfgdcidjaa.App Go.Shelf
open Go.Proofs.Ytbbpebfgdcidjaa.FnL (enc_at below_then)
set_option linter.unusedVariables false

def LZ (l : List Int) : List Value := l.map (Value.int .i64)
theorem one_LZ {l : List Int} : ∀ u ∈ LZ l, u.oneCell' = true := fun u hu => by
  obtain ⟨x, _, rfl⟩ := List.mem_map.1 hu; rfl
theorem wpAppZ {w : World} {ops : Array Oper} {rest : List Oper} {o : Oper} {a : Act} {Q : Exit → Act → World → Prop} (hgd : o.guard = none) (s x : Operand)
    (ho : o.op = .call { callee := .builtin .append, args := #[s, x], argTypes := #[31, 31] })
    (base : Nat) (A : Option Addr) (n c : Nat) (xs : List Int) (hs : a.eval s = .slice A n c) (hown : App.Own w base 3 A n c (LZ xs))
    (A2 : Option Addr) (m c2 : Nat) (news : List Int) (hx : a.eval x = .slice A2 m c2) (hl : m = news.length) (hr : RdV w A2 (LZ news)) (hnil : A2 = none → c2 = 0)
    (h63 : n + m ≤ 4000000) (hbase : base ≤ w.heap.size) (r : Nat) (hrr : n + m = r)
    (h : ∀ A' c' w', App.Own w' base 3 A' r c' (LZ (xs ++ news)) → Below base w w' → wpList Try.prog ops Q rest (a.put o.dst (.slice A' r c')) w') : wpList Try.prog ops Q (o :: rest) a w := by
  subst hrr
  obtain ⟨i0, hi⟩ := Option.isSome_iff_exists.1 (show (Try.prog.info? 3).isSome = true by kernel_rfl)
  have hz : (Try.prog.info? 3).map (fun i => (i.zero, i.size, i.bytes)) = some (some (.int .i64 0), 1, 8) := by kernel_rfl
  rw [hi] at hz
  injection hz with hz
  injection hz with hz0 hz
  injection hz with hz1 hz2
  refine wpList_app hgd s x 31 ho base 3 i0 (.int .i64 0) 8 Try.underlying31 hi hz0 hz1 hz2 rfl (.slice A n c) n (LZ xs) hs hown.own A2 m c2 (LZ news) hx (by simpa [LZ] using hl) hr hnil one_LZ (by unfold maxLen; omega) (by omega) hbase (fun v' w' h1 h2 => ?_)
  obtain ⟨A', c', rfl, hO⟩ := App.Own.of h1
  exact h A' c' w' (by rw [LZ, List.map_append]; exact hO) ((Mod.grown h2).below (fun i _ e => hown.block e) hbase)

section
variable {w w' : World} {base gt gd : Nat} {m m' : TM} {q q' : TQ} {d d' : DM} {A A' : Option Addr} {c c' : Nat}
theorem own_blk {n k i : Nat} {t : TypeId} {X : Option Addr} {xs : List Value} (h : App.Own w base t X n k xs) (e : X = some ⟨i, 0, none⟩) : ∃ cs, Blk w i t cs := by
  obtain ⟨_, ⟨e1, _⟩ | ⟨j, e1, _, _, r, h3, _⟩⟩ := h
  · rw [e1] at e; cases e
  · rw [e1] at e; cases e; exact ⟨_, h3⟩
theorem er_blk {i : Nat} {row : List Ent} (h : ER w base A c row) (e : A = some ⟨i, 0, none⟩) : ∃ cs, Blk w i 85 cs := by
  rcases h with ⟨e1, _⟩ | ⟨j, cur, e1, _, _, _, h4, _⟩
  · rw [e1] at e; cases e
  · rw [e1] at e; cases e; exact ⟨_, h4⟩
theorem mine_typ (h : TrS w base gt m q) {i : Nat} (hi : mine gt q i) : ∃ t cs, Blk w i t cs ∧ (t = 63 ∨ t = 67 ∨ t = 30 ∨ t = 3) := by
  rcases hi with rfl | rfl | e | e
  · exact ⟨_, _, h.blk, .inl rfl⟩
  · obtain ⟨cs, h1, _⟩ := h.spots; exact ⟨_, cs, h1, .inr (.inl rfl)⟩
  · obtain ⟨cs, h1⟩ := own_blk h.lits e; exact ⟨_, cs, h1, .inr (.inr (.inl rfl))⟩
  · obtain ⟨cs, h1⟩ := own_blk h.starts e; exact ⟨_, cs, h1, .inr (.inr (.inr rfl))⟩
theorem mineD_typ (h : DrS w base gd d A c) {i : Nat} (hi : mineD gd A i) : ∃ t cs, Blk w i t cs ∧ (t = 78 ∨ t = 85) := by
  rcases hi with rfl | e
  · exact ⟨_, _, h.blk, .inl rfl⟩
  · obtain ⟨cs, h1⟩ := er_blk h.rows e; exact ⟨_, cs, h1, .inr rfl⟩
theorem apart (h : TrS w base gt m q) (k : DrS w base gd d A c) (i : Nat) (h1 : mine gt q i) (h2 : mineD gd A i) : False := by
  obtain ⟨t, cs, b1, e1⟩ := mine_typ h h1
  obtain ⟨t', cs', b2, e2⟩ := mineD_typ k h2
  refine b1.ne_ b2 ?_ rfl
  rcases e1 with rfl | rfl | rfl | rfl <;> rcases e2 with rfl | rfl <;> decide
theorem DrS.step (k : DrS w base gd d A c) (h : TrS w base gt m q) (s : TStep gt q q' w w') : DrS w' base gd d A c := k.mod s.md fun i h2 h1 => apart h k i h1 h2
theorem TrS.step (h : TrS w base gt m q) (k : DrS w base gd d A c) (s : DStep gd A A' w w') : TrS w' base gt m q := h.mod s.md fun i h1 h2 => apart h k i h1 h2
def OneR (w : World) (base gt gd : Nat) (m : TM) (d : DM) (s : St) (e : Ending) (w' : World) : Prop :=
  e = .returned (.bool true) ∧ ∃ q' A' c', TrS w' base gt (stepM m s) q' ∧ DrS w' base gd (stepD d s) A' c' ∧ Below base w w'
set_option maxRecDepth 100000 in
theorem one_any {B n : Nat} (hB : B ≤ base) (hbw : base ≤ w.heap.size) (h : TrS w base gt m q) (k : DrS w base gd d A c) (r : RG n m d) (hn : n ≤ 100) (s : St) (hs : StOk B w s) (hto : s.tn ≤ 1048576) :
    Calls Try.prog 21 #[.pointer (some ⟨gt, 0, none⟩), .pointer (some ⟨gd, 0, none⟩), .agg #[.int .i64 s.k, .int .i32 s.l, .int .i64 s.n, .slice s.A s.tn s.tc]] w fun e w' => OneR w base gt gd m d s e w' := by
  have HP := Lib.hid (fun W => pick_any s.k hs.kb.1 hs.kb.2 7 (by omega) (by omega) W)
  obtain ⟨Wb, hW0⟩ : ∃ Wb, Wb = w.alloc (.cells #[.int .i64 s.k, .int .i32 s.l, .int .i64 s.n, .slice s.A s.tn s.tc] 33) := ⟨_, rfl⟩
  have HB0 := Lib.hid (show Below w.heap.size w Wb from hW0 ▸ (Below.refl _ _).alloc (Nat.le_refl _) _)
  have HK0 := Lib.hid (show Blk Wb w.heap.size 33 #[.int .i64 s.k, .int .i32 s.l, .int .i64 s.n, .slice s.A s.tn s.tc] from hW0 ▸ Blk.new w _ _)
  have HT := Lib.hid (h.below HB0.out)
  have HD := Lib.hid (k.below HB0.out)
  have HWB := Lib.hid (HB0.out.mono hbw)
  have HNM := Lib.hid (fun i (hi : mine gt q i) => (h.minB hi).2)
  have HND := Lib.hid (fun i (hi : mineD gd A i) => (k.minB hi).2)
  have HS0 := Lib.hid (hs.below (HB0.out.mono (Nat.le_trans hB hbw)))
  have R := Lib.hid r
  have hln := r.ln
  have hsn := r.sn
  have hdl : d.row.length = m.lits.length := r.rel.len
  have hdt : d.top = m.starts.length := r.rel.top
  have HLB := Lib.hid hs.lb
  have HNB := Lib.hid hs.nb
  have HW0 := Lib.hid hW0
  have HEM := Lib.hid (show stepM m s = if pickI s.k 7 = 0 ∨ pickI s.k 7 = 1 then decM m s.l else if pickI s.k 7 = 2 ∨ pickI s.k 7 = 3 then asgM m s.l s.n else if pickI s.k 7 = 4 then backM m s.n else if pickI s.k 7 = 5 then nextM m else mvM m s.to from rfl)
  have HED := Lib.hid (show stepD d s = if pickI s.k 7 = 0 ∨ pickI s.k 7 = 1 then rdecD d s.l else if pickI s.k 7 = 2 ∨ pickI s.k 7 = 3 then rasgD d s.l s.n else if pickI s.k 7 = 4 then rbackD d s.n else if pickI s.k 7 = 5 then rnextD d else rmoveD d s.to from rfl)
  have hp0 := pickI_bd s.k (n := 7) (by omega)
  clear h k r hs hW0
  have c0 : Wb.cell? ⟨w.heap.size, 0, none⟩ = some (.int .i64 s.k) := HK0.out.cell 0
  have c1 : Wb.cell? ⟨w.heap.size, 1, none⟩ = some (.int .i32 s.l) := HK0.out.cell 1
  have c2 : Wb.cell? ⟨w.heap.size, 2, none⟩ = some (.int .i64 s.n) := HK0.out.cell 2
  have c3 : Wb.cell? ⟨w.heap.size, 3, none⟩ = some (.slice s.A s.tn s.tc) := HK0.out.cell 3
  generalize pickI s.k 7 = p at *
  go_enter Try.func21, Try.ntmps21
  go_upto_region 1 with (fail)
  rw [← HW0.out]
  go_wp2_with fail
  refine (HP.out _).mono ?_
  rintro e w1 ⟨rfl, rfl⟩
  by_cases p01 : p = 0 ∨ p = 1
  · have HE1 := Lib.hid (HEM.out.trans (if_pos p01))
    have HE2 := Lib.hid (HED.out.trans (if_pos p01))
    have HC1 := Lib.hid (decide_any (w := w1.drew) (HT.out.below ((Below.refl _ _).drew)) R.out.rel.wf.ok (by omega) (by omega) s.l HLB.out.1 HLB.out.2)
    have HC2 := Lib.hid (fun (W : World) (hD : DrS W base gd d A c) => (show Calls Try.prog 39 #[.pointer (some ⟨gd, 0, none⟩), .int .i32 s.l] W fun e w' => e = .returned (.int .i64 (mayE m s.l (-1))) ∧ DAft W base gd A (rdecD d s.l) w' from by
      have := rdecide_any hD R.out.rel.dok (by omega) (by omega) s.l HLB.out.1 HLB.out.2
      rwa [R.out.rel.mayD] at this))
    have HFIN := Lib.hid (fun (w4 w5 : World) (q' : TQ) (h4 : TrS w4 base gt (decM m s.l) q') (s4 : TStep gt q q' w1.drew w4) (h5 : DAft w4 base gd A (rdecD d s.l) w5) => (show ∀ j, OneR w base gt gd m d s (.returned (.bool true)) (w5.drewN j) from fun j => by
      obtain ⟨A', c', h6, s6⟩ := h5
      have hd4 := (HD.out.below ((Below.refl _ _).drew)).step (HT.out.below ((Below.refl _ _).drew)) s4
      have b4 := s4.below (HT.out.below ((Below.refl _ _).drew)) (Nat.le_trans hbw HB0.out.size)
      have b6 := s6.below hd4 (Nat.le_trans hbw (Nat.le_trans HB0.out.size b4.size))
      refine ⟨rfl, q', A', c', ?_, ?_, ?_⟩
      · rw [HE1.out]; exact (h4.step hd4 s6).drewN j
      · rw [HE2.out]; exact h6.below (belowN (Below.refl _ _) j)
      · exact belowN ((((HWB.out.trans ((Below.refl _ _).drew))).trans b4).trans b6) j))
    have K0 : ∀ (w4 : World) (q' : TQ), TStep gt q q' w1.drew w4 → w4.cell? ⟨w.heap.size, 1, none⟩ = some (.int .i32 s.l) := fun w4 q' s4 => (HK0.out.drew.mod s4.md (fun hi => by have := HNM.out _ hi; omega)).cell 1
    have K0 := Lib.hid K0
    have K2 := Lib.hid (fun (w4 w5 : World) (q' : TQ) (s4 : TStep gt q q' w1.drew w4) (h5 : DAft w4 base gd A (rdecD d s.l) w5) => (show w5.cell? ⟨w.heap.size, 1, none⟩ = some (.int .i32 s.l) from by
      obtain ⟨_, _, _, s6⟩ := h5
      exact ((HK0.out.drew.mod s4.md (fun hi => by have := HNM.out _ hi; omega)).mod s6.md (fun hi => by have := HND.out _ hi; omega)).cell 1))
    have KD := Lib.hid (fun (w4 : World) (q' : TQ) (s4 : TStep gt q q' w1.drew w4) => (HD.out.below ((Below.refl _ _).drew)).step (HT.out.below ((Below.refl _ _).drew)) s4)
    clear HEM HED c0 c2 c3
    generalize mayE m s.l (-1) = er at *
    rcases p01 with rfl | rfl
    all_goals
      go_wp2_with fail
      go_region_held3 (fun w' => w'.cell? ⟨w.heap.size, 1, none⟩ = some (.int .i32 s.l)) (first | exact c1 | exact k1 | exact k2)
        (first
          | (go_at_call 25
             refine HC1.out.mono ?_
             rintro e w4 ⟨rfl, q', h4, s4⟩
             have k1 := K0.out w4 q' s4
             have H4 := Lib.hid h4
             have S4 := Lib.hid s4
             have HD4 := Lib.hid (KD.out w4 q' s4)
             clear h4 s4)
          | (go_at_call 39
             refine (HC2.out w4 HD4.out).mono ?_
             rintro e w5 ⟨rfl, h5⟩
             have HF := Lib.hid (HFIN.out w4 w5 q' H4.out S4.out h5)
             have k2 := K2.out w4 w5 q' S4.out h5
             clear h5))
      go_wp2
      go_ret
      exact HF.out 0
  · by_cases p23 : p = 2 ∨ p = 3
    · have HE1 := Lib.hid ((HEM.out.trans (if_neg p01)).trans (if_pos p23))
      have HE2 := Lib.hid ((HED.out.trans (if_neg p01)).trans (if_pos p23))
      have HC1 := Lib.hid (assign_any (w := w1.drew) (HT.out.below ((Below.refl _ _).drew)) R.out.rel.wf.ok (by omega) s.l s.n HLB.out.1 HLB.out.2)
      have HC2 := Lib.hid (fun (W : World) (hD : DrS W base gd d A c) => (show Calls Try.prog 40 #[.pointer (some ⟨gd, 0, none⟩), .int .i32 s.l, .int .i64 s.n] W fun e w' => e = .returned (.int .i64 (mayE m s.l s.n)) ∧ DAft W base gd A (rasgD d s.l s.n) w' from by
        have := rassign_any hD R.out.rel.dok (by omega) s.l s.n HLB.out.1 HLB.out.2
        rwa [R.out.rel.rasgE] at this))
      have HFIN := Lib.hid (fun (w4 w5 : World) (q' : TQ) (h4 : TrS w4 base gt (asgM m s.l s.n) q') (s4 : TStep gt q q' w1.drew w4) (h5 : DAft w4 base gd A (rasgD d s.l s.n) w5) => (show ∀ j, OneR w base gt gd m d s (.returned (.bool true)) (w5.drewN j) from fun j => by
        obtain ⟨A', c', h6, s6⟩ := h5
        have hd4 := (HD.out.below ((Below.refl _ _).drew)).step (HT.out.below ((Below.refl _ _).drew)) s4
        have b4 := s4.below (HT.out.below ((Below.refl _ _).drew)) (Nat.le_trans hbw HB0.out.size)
        have b6 := s6.below hd4 (Nat.le_trans hbw (Nat.le_trans HB0.out.size b4.size))
        refine ⟨rfl, q', A', c', ?_, ?_, ?_⟩
        · rw [HE1.out]; exact (h4.step hd4 s6).drewN j
        · rw [HE2.out]; exact h6.below (belowN (Below.refl _ _) j)
        · exact belowN ((((HWB.out.trans ((Below.refl _ _).drew))).trans b4).trans b6) j))
      have K0 := Lib.hid (fun (w4 : World) (q' : TQ) (s4 : TStep gt q q' w1.drew w4) => (show w4.cell? ⟨w.heap.size, 1, none⟩ = some (.int .i32 s.l) ∧ w4.cell? ⟨w.heap.size, 2, none⟩ = some (.int .i64 s.n) from
        ⟨(HK0.out.drew.mod s4.md (fun hi => by have := HNM.out _ hi; omega)).cell 1, (HK0.out.drew.mod s4.md (fun hi => by have := HNM.out _ hi; omega)).cell 2⟩))
      have K2 := Lib.hid (fun (w4 w5 : World) (q' : TQ) (s4 : TStep gt q q' w1.drew w4) (h5 : DAft w4 base gd A (rasgD d s.l s.n) w5) => (show w5.cell? ⟨w.heap.size, 1, none⟩ = some (.int .i32 s.l) ∧ w5.cell? ⟨w.heap.size, 2, none⟩ = some (.int .i64 s.n) from by
        obtain ⟨_, _, _, s6⟩ := h5
        have hb := (HK0.out.drew.mod s4.md (fun hi => by have := HNM.out _ hi; omega)).mod s6.md (fun hi => by have := HND.out _ hi; omega)
        exact ⟨hb.cell 1, hb.cell 2⟩))
      have KD := Lib.hid (fun (w4 : World) (q' : TQ) (s4 : TStep gt q q' w1.drew w4) => (HD.out.below ((Below.refl _ _).drew)).step (HT.out.below ((Below.refl _ _).drew)) s4)
      clear HEM HED c0 c3
      generalize mayE m s.l s.n = er at *
      rcases p23 with rfl | rfl
      all_goals
        clear p01
        go_wp2_with fail
        go_region_held3 (fun w' => w'.cell? ⟨w.heap.size, 1, none⟩ = some (.int .i32 s.l) ∧ w'.cell? ⟨w.heap.size, 2, none⟩ = some (.int .i64 s.n)) (first | exact ⟨c1, c2⟩ | exact k1 | exact k2)
          (first
            | (go_at_call 26
               refine HC1.out.mono ?_
               rintro e w4 ⟨rfl, q', h4, s4⟩
               have k1 := K0.out w4 q' s4
               have H4 := Lib.hid h4
               have S4 := Lib.hid s4
               have HD4 := Lib.hid (KD.out w4 q' s4)
               clear h4 s4)
            | (go_at_call 40
               refine (HC2.out w4 HD4.out).mono ?_
               rintro e w5 ⟨rfl, h5⟩
               have HF := Lib.hid (HFIN.out w4 w5 q' H4.out S4.out h5)
               have k2 := K2.out w4 w5 q' S4.out h5
               clear h5))
        go_wp2
        go_ret
        exact HF.out 0
    · by_cases p4 : p = 4
      · have HE1 := Lib.hid (((HEM.out.trans (if_neg p01)).trans (if_neg p23)).trans (if_pos p4))
        have HE2 := Lib.hid (((HED.out.trans (if_neg p01)).trans (if_neg p23)).trans (if_pos p4))
        have HBK := Lib.hid (R.out.rel.back s.n)
        have HC1 := Lib.hid (back_any HT.out R.out.rel.wf.ok R.out.rel.wf.st s.n)
        clear HEM HED p01 p23 c0 c1 c3
        subst p4
        go_wp2_with fail
        refine HC1.out.mono ?_
        rintro e w4 ⟨X, xc, rfl, hO, h4, s4⟩
        have HD4 := Lib.hid (HD.out.step HT.out s4)
        have H4 := Lib.hid h4
        have hb4 := s4.below HT.out (Nat.le_trans hbw HB0.out.size)
        have HB4 := Lib.hid hb4
        have HO4 := Lib.hid hO
        have c2 : w4.cell? ⟨w.heap.size, 2, none⟩ = some (.int .i64 s.n) := (HK0.out.mod s4.md (fun hi => by have := HNM.out _ hi; omega)).cell 2
        have HC2 := Lib.hid (rback_any HD4.out R.out.rel.dok s.n HNB.out.1 HNB.out.2)
        clear hO h4 s4 hb4 HC1
        go_wp2_with fail
        refine HC2.out.mono ?_
        rintro e w5 ⟨Y, yc, rfl, hO, h5, s5⟩
        have HO5 := Lib.hid (HO4.out.mod s5.md (fun i hi e hm => by have := (HD.out.minB hm).2; omega))
        have HLEN := Lib.hid (show (goneM m s.n).length ≤ 1000000 from by
          have := R.out.rel.wf.ok.ln
          unfold goneM; split
          · rw [List.length_reverse, List.length_drop]; omega
          · simp)
        have HSC := Lib.hid (sameClause_any (w := w5) X (goneM m s.n).length xc (goneM m s.n) rfl HO5.out.rd Y (rgone d s.n).length yc (rgone d s.n) rfl hO.rd (by have := HLEN.out; omega) (by have := HLEN.out; rw [HBK.out.2.1]; omega))
        have HFIN := Lib.hid (fun (w6 : World) (hb6 : Below w5.heap.size w5 w6) => (show OneR w base gt gd m d s (.returned (.bool true)) w6 from by
          have b5 := s5.below HD4.out (Nat.le_trans hbw (Nat.le_trans HB0.out.size HB4.out.size))
          refine ⟨rfl, q, A, c, ?_, ?_, ?_⟩
          · rw [HE1.out]; exact (H4.out.step HD4.out s5).below hb6
          · rw [HE2.out]; exact h5.below hb6
          · exact ((HWB.out.trans HB4.out).trans b5).trans (hb6.mono (Nat.le_trans hbw (Nat.le_trans HB0.out.size (Nat.le_trans HB4.out.size b5.size))))))
        have HBE := Lib.hid HBK.out.2.2
        rw [HBK.out.2.1] at HSC ⊢
        rw [HBE.out]
        rw [beq_self_eq_true] at HSC
        clear hO h5 s5 HC2 HBK c2
        generalize backE m s.n = er at *
        generalize (goneM m s.n).length = gl at *
        go_wp2_with fail
        refine HSC.out.mono ?_
        rintro e w6 ⟨rfl, hb6⟩
        have HF := Lib.hid (HFIN.out w6 hb6)
        clear hb6
        go_wp2
        go_ret
        exact HF.out
      · by_cases p5 : p = 5
        · have HE1 := Lib.hid ((((HEM.out.trans (if_neg p01)).trans (if_neg p23)).trans (if_neg p4)).trans (if_pos p5))
          have HE2 := Lib.hid ((((HED.out.trans (if_neg p01)).trans (if_neg p23)).trans (if_neg p4)).trans (if_pos p5))
          have HNX := Lib.hid R.out.rel.next
          have HC1 := Lib.hid (next_any HT.out R.out.rel.wf.ok)
          clear HEM HED p01 p23 p4 c0 c1 c2 c3
          subst p5
          go_wp2_with fail
          refine HC1.out.mono ?_
          rintro e w4 ⟨rfl, h4, s4⟩
          have HD4 := Lib.hid (HD.out.step HT.out s4)
          have H4 := Lib.hid h4
          have HB4 := Lib.hid (s4.below HT.out (Nat.le_trans hbw HB0.out.size))
          have HC2 := Lib.hid (show Calls Try.prog 42 #[.pointer (some ⟨gd, 0, none⟩)] w4 fun e w' => e = .returned (.tuple #[.int .i32 (nextL m), .bool (decide (m.head < m.lits.length))]) ∧ DrS w' base gd (rnextD d) A c ∧ DStep gd A A w4 w' from by
            have := rnext_any HD4.out R.out.rel.dok
            unfold RNextR at this
            rwa [HNX.out.2.1, HNX.out.2.2] at this)
          clear h4 s4 HC1
          generalize nextL m = nl at *
          generalize decide (m.head < m.lits.length) = nb at *
          go_wp2_with fail
          refine HC2.out.mono ?_
          rintro e w5 ⟨rfl, h5, s5⟩
          have HF := Lib.hid (show OneR w base gt gd m d s (.returned (.bool true)) w5 from by
            have b5 := s5.below HD4.out (Nat.le_trans hbw (Nat.le_trans HB0.out.size HB4.out.size))
            refine ⟨rfl, q, A, c, ?_, ?_, ?_⟩
            · rw [HE1.out]; exact H4.out.step HD4.out s5
            · rw [HE2.out]; exact h5
            · exact (HWB.out.trans HB4.out).trans b5)
          clear h5 s5 HC2
          go_wp2
          go_ret
          exact HF.out
        · have HE1 := Lib.hid ((((HEM.out.trans (if_neg p01)).trans (if_neg p23)).trans (if_neg p4)).trans (if_neg p5))
          have HE2 := Lib.hid ((((HED.out.trans (if_neg p01)).trans (if_neg p23)).trans (if_neg p4)).trans (if_neg p5))
          have hp6 : p = 6 := by omega
          have HMV := Lib.hid (R.out.rel.move s.to HS0.out.tb)
          have HRT := Lib.hid (show RdB B w1 s.A (LZ s.to) from HS0.out.rd)
          have HBW := Lib.hid (show base ≤ w1.heap.size from Nat.le_trans hbw HB0.out.size)
          have HNIL := Lib.hid HS0.out.nil
          have HTL := Lib.hid HS0.out.tl
          clear HEM HED p01 p23 p4 p5 c0 c1 c2
          subst hp6
          go_wp2_with (at_builtin; refine wpAppZ rfl _ _ rfl w1.heap.size none 0 0 [] rfl (Own.nil _ _ _) s.A s.tn s.tc s.to rfl HTL.out (HRT.out.rd (Nat.le_trans hB HBW.out)) HNIL.out (by omega) (Nat.le_refl _) s.tn (Nat.zero_add _) ?_; intro A6 c6 w3 hO hb3; have HO := Lib.hid hO; have HB3 := Lib.hid hb3; clear hO hb3)
          have HB3d := Lib.hid (show Below w1.heap.size w1 w3.drew from HB3.out.drew)
          have HT3 := Lib.hid (HT.out.below HB3d.out)
          have HD3 := Lib.hid (HD.out.below HB3d.out)
          have HK3 := Lib.hid (HK0.out.below HB3d.out)
          have HC1 := Lib.hid (show Calls Try.prog 27 #[.pointer (some ⟨gt, 0, none⟩), .slice A6 s.tn c6] w3.drew fun e w' => e = .returned (.int .i64 (mvE m s.to)) ∧ TrS w' base gt (mvM m s.to) q ∧ TStep gt q q w3.drew w' from move_any (w := w3.drew) HT3.out R.out.rel.wf.ok R.out.rel.wf.once R.out.rel.rs A6 s.tn c6 s.to HTL.out (show RdV w3.drew A6 (LZ s.to) from HO.out.rd) (by omega) (fun b off e hm => by
            have h1 := HNM.out b hm
            obtain ⟨_, ⟨e1, _⟩ | ⟨j, e1, h2, _⟩⟩ := HO.out
            · rw [e1] at e; cases e
            · rw [e1] at e; cases e
              have := HB0.out.size; omega))
          have HC2 := Lib.hid (fun (w4 : World) (s4 : TStep gt q q w3.drew w4) => (show Calls Try.prog 43 #[.pointer (some ⟨gd, 0, none⟩), .slice s.A s.tn s.tc] w4 fun e w' => e = .returned (.int .i64 (mvE m s.to)) ∧ DrS w' base gd (rmoveD d s.to) A c ∧ DStep gd A A w4 w' from by
            have hb4 := s4.below HT3.out (Nat.le_trans HBW.out HB3d.out.size)
            have hrd := (HRT.out.below (HB3d.out.mono (Nat.le_trans hB HBW.out))).below (hb4.mono hB)
            have := rmove_any (HD3.out.step HT3.out s4) R.out.rel.dok s.A s.tn s.tc s.to HTL.out (hrd.rd (Nat.le_trans hB (Nat.le_trans HBW.out (Nat.le_trans HB3d.out.size hb4.size)))) HS0.out.tb (by omega) (fun hp b off e hm => by
              obtain ⟨b', off', e', hx, _⟩ := hrd (by simpa [LZ] using hp)
              rw [e'] at e; cases e
              have := (HD3.out.minB hm).1; omega)
            unfold RMoveR at this
            rwa [HMV.out.2] at this))
          have HFIN := Lib.hid (fun (w4 w5 : World) (h4 : TrS w4 base gt (mvM m s.to) q) (s4 : TStep gt q q w3.drew w4) (h5 : DrS w5 base gd (rmoveD d s.to) A c) (s5 : DStep gd A A w4 w5) => (show (w5.cell? ⟨w.heap.size, 3, none⟩ = some (.slice s.A s.tn s.tc)) ∧ ∀ j, OneR w base gt gd m d s (.returned (.bool true)) (w5.drewN j) from by
            have hd4 := HD3.out.step HT3.out s4
            have b4 := s4.below HT3.out (Nat.le_trans HBW.out HB3d.out.size)
            have b5 := s5.below hd4 (Nat.le_trans HBW.out (Nat.le_trans HB3d.out.size b4.size))
            refine ⟨((HK3.out.mod s4.md (fun hi => by have := HNM.out _ hi; omega)).mod s5.md (fun hi => by have := HND.out _ hi; omega)).cell 3, fun j => ⟨rfl, q, A, c, ?_, ?_, ?_⟩⟩
            · rw [HE1.out]; exact (h4.step hd4 s5).drewN j
            · rw [HE2.out]; exact h5.below (belowN (Below.refl _ _) j)
            · exact belowN (((HWB.out.trans (HB3d.out.mono HBW.out)).trans b4).trans b5) j))
          have K0 := Lib.hid (fun (w4 : World) (s4 : TStep gt q q w3.drew w4) => (HK3.out.mod s4.md (fun hi => by have := HNM.out _ hi; omega)).cell 3)
          have c3 : w3.cell? ⟨w.heap.size, 3, none⟩ = some (.slice s.A s.tn s.tc) := HK3.out.cell 3
          generalize mvE m s.to = er at *
          go_wp2_with fail
          go_region_held3 (fun w' => w'.cell? ⟨w.heap.size, 3, none⟩ = some (.slice s.A s.tn s.tc)) (first | exact c3 | exact k1 | exact k2)
            (first
              | (go_at_call 27
                 refine HC1.out.mono ?_
                 rintro e w4 ⟨rfl, h4, s4⟩
                 have k1 : w4.cell? ⟨w.heap.size, 3, none⟩ = some (.slice s.A s.tn s.tc) := K0.out w4 s4
                 have H4 := Lib.hid h4
                 have S4 := Lib.hid s4
                 clear h4 s4)
              | (go_at_call 43
                 refine (HC2.out w4 S4.out).mono ?_
                 rintro e w5 ⟨rfl, h5, s5⟩
                 have k2 := (HFIN.out w4 w5 H4.out S4.out h5 s5).1
                 have HF := Lib.hid (HFIN.out w4 w5 H4.out S4.out h5 s5).2
                 clear h5 s5))
          go_wp2
          go_ret
          exact HF.out 0
end
end Go.Proofs.Ytbbpebfgdcidjaa.Ta
