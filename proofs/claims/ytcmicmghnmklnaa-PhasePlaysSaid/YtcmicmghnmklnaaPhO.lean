/- The walk of PhaseSame: stores beside one another. -/
import Derived.Test.YtcmicmghnmklnaaPhN
namespace Go.Proofs.Ytcmicmghnmklnaa.Ph
open Go.RowKit Go.Proofs.Ytcmicmghnmklnaa.Mem Go.Proofs.Ytcmicmghnmklnaa.Sl Go.Shelf Go.Proofs.Ytcmicmghnmklnaa.Ops
set_option linter.unusedVariables false

theorem RowI.lower {w : World} {B B' N : Nat} {A : Option Addr} {n : Nat} {l : List Int} (h : RowI w B N A n l) (hB : B' ≤ B) : RowI w B' N A n l := by
  rcases h with h | ⟨g, h1, h2, h3, h4, h5⟩
  · exact .inl h
  · exact .inr ⟨g, h1, h2, h3, Nat.le_trans hB h4, h5⟩
theorem Ph.lower {w : World} {B B' g : Nat} {p : PV} (h : Ph w B g p) (hB : B' ≤ B) : Ph w B' g p :=
  ⟨h.blk, h.row, Nat.le_trans hB h.bg, Nat.le_trans hB h.bs, h.t.lower hB, h.b.lower hB, h.len, h.st0, h.st1, h.tu0, h.tn0, h.bn0⟩
/-- Another store is as it was. -/
theorem Ph.other {w w' : World} {B g g' : Nat} {p q : PV} (hp : Ph w B g p) (hq : Ph w B g' q) (hm : Mod (Two g p.sb) w w') (h1 : g' ≠ g) (h2 : q.sb ≠ p.sb) : Ph w' B g' q :=
  hq.mod hm (fun e => by
      rcases e with e | e
      · exact h1 e
      · exact hp.row.ne_blk hq.blk (by decide) e.symm)
    (fun e => by
      rcases e with e | e
      · exact hq.row.ne_blk hp.blk (by decide) e
      · exact h2 e)
    (fun i cs hc e => by
      rcases e with e | e
      · exact hp.ne_i8 hc e
      · exact hp.row.ne_blk hc (by decide) e.symm)
theorem Ph.gs {w : World} {B g : Nat} {p : PV} (h : Ph w B g p) : g ≠ p.sb := fun e => h.row.ne_blk h.blk (by decide) e.symm
/-- Two stores. -/
structure Pair (B g1 s1 g2 s2 : Nat) (w : World) (p q : PV) : Prop where
  hp : Ph w B g1 p
  hq : Ph w B g2 q
  sp : p.sb = s1
  sq : q.sb = s2
  hg : g1 ≠ g2
  hs : s1 ≠ s2
  abs : q.abs = p.abs
theorem does_at {w : World} {B g : Nat} {p : PV} {B0 : Nat} (h : Ph w B g p) (hB : B ≤ w.heap.size) (hB0 : B0 ≤ B) (ht : p.turned ≤ 4611686018427387904) (o : Op3) (ho : OpOk B0 w o) (d : Nat) (hd : (doesM p.abs o).2 = d) :
    Calls Try.prog 13 #[.pointer (some ⟨g, 0, none⟩), .agg #[.int .u8 o.kind, .int .i64 o.v, .slice o.A o.n o.c]] w fun e w' => ∃ p', e = .returned (.int .u64 (d : Nat)) ∧ Ph w' B g p' ∧ p'.abs = (doesM p.abs o).1 ∧ p'.sb = p.sb ∧ Mod (Two g p.sb) w w' := by
  subst hd
  exact does_ok h hB hB0 h.gs ht o ho
theorem OkAt.below {B : Nat} {w w' : World} {b off : Nat} {o : Op3} (h : OkAt B w b off o) (hb : Below B w w') (hx : b < B) : OkAt B w' b off o :=
  ⟨(hb.cell (p := ⟨b, off, none⟩) hx).trans h.k, h.k0, h.k1, (hb.cell (p := ⟨b, off + 1, none⟩) hx).trans h.v, h.v0, h.v1, (hb.cell (p := ⟨b, off + 2, none⟩) hx).trans h.s, h.n, h.m, h.rd.below hb⟩
/-- What stands at a round. -/
structure S3 (B g1 s1 g2 s2 g3 s3 N : Nat) (st : Bool) (w wr : World) (p q r : PV) (c : Nat) : Prop where
  pair : Pair B g1 s1 g2 s2 wr p q
  hr : Ph wr B g3 r
  sr : r.sb = s3
  d1 : g3 ≠ g1
  d2 : g3 ≠ g2
  e1 : s3 ≠ s1
  e2 : s3 ≠ s2
  below : Below B w wr
  bw : B ≤ w.heap.size
  good : Good N st p.abs c
  goodr : Good N st r.abs c
theorem S3.le {B g1 s1 g2 s2 g3 s3 N : Nat} {st : Bool} {w wr : World} {p q r : PV} {c : Nat} (h : S3 B g1 s1 g2 s2 g3 s3 N st w wr p q r c) : B ≤ wr.heap.size := Nat.le_trans h.bw h.below.size
theorem S3.more {B g1 s1 g2 s2 g3 s3 N : Nat} {st : Bool} {w wr w' : World} {p q r r' : PV} {c : Nat} (h : S3 B g1 s1 g2 s2 g3 s3 N st w wr p q r c) (hr : Ph w' B g3 r') (hs : r'.sb = r.sb) (hg : Good N st r'.abs (c + 1)) (hm : Mod (Two g3 r.sb) wr w') :
    S3 B g1 s1 g2 s2 g3 s3 N st w w' p q r' (c + 1) :=
  ⟨⟨Ph.other h.hr h.pair.hp hm h.d1.symm (by rw [h.pair.sp, h.sr]; exact h.e1.symm), Ph.other h.hr h.pair.hq hm h.d2.symm (by rw [h.pair.sq, h.sr]; exact h.e2.symm), h.pair.sp, h.pair.sq, h.pair.hg, h.pair.hs, h.pair.abs⟩,
   hr, hs.trans h.sr, h.d1, h.d2, h.e1, h.e2, h.below.trans (hm.below (fun i _ e => by
      rcases e with rfl | rfl
      · exact h.hr.bg
      · exact h.hr.bs) h.le), h.bw, h.good.more, hg⟩
theorem S3.next {B g1 s1 g2 s2 g3 s3 N : Nat} {st : Bool} {w wr : World} {p q r : PV} {c : Nat} (h : S3 B g1 s1 g2 s2 g3 s3 N st w wr p q r c) : S3 B g1 s1 g2 s2 g3 s3 N st w wr p q r (c + 1) :=
  ⟨h.pair, h.hr, h.sr, h.d1, h.d2, h.e1, h.e2, h.below, h.bw, h.good.more, h.goodr.more⟩
/-- .. what the first call leaves for the second. -/
theorem S3.mid {B g1 s1 g2 s2 g3 s3 N : Nat} {st : Bool} {w wr w4 : World} {p q r : PV} {c : Nat} (h : S3 B g1 s1 g2 s2 g3 s3 N st w wr p q r c) (hm : Mod (Two g1 p.sb) wr w4) : Ph w4 B g2 q ∧ Below B wr w4 :=
  ⟨Ph.other h.pair.hp h.pair.hq hm h.pair.hg.symm (by rw [h.pair.sp, h.pair.sq]; exact h.pair.hs.symm), hm.below (fun i _ e => by
      rcases e with rfl | rfl
      · exact h.pair.hp.bg
      · exact h.pair.hp.bs) h.le⟩
theorem S3.mid2 {B g1 s1 g2 s2 g3 s3 N : Nat} {st : Bool} {w wr w4 w5 : World} {p q r : PV} {c : Nat} (h : S3 B g1 s1 g2 s2 g3 s3 N st w wr p q r c) (hb : Below B wr w4) (hm : Mod (Two g2 q.sb) w4 w5) : Below B w4 w5 :=
  hm.below (fun i _ e => by
      rcases e with rfl | rfl
      · exact h.pair.hq.bg
      · exact h.pair.hq.bs) (Nat.le_trans h.le hb.size)
/-- Behind a call of the first, and of the second. -/
theorem S3.both {B g1 s1 g2 s2 g3 s3 N : Nat} {st : Bool} {w wr w4 w5 : World} {p q r p' q' : PV} {c : Nat} {m : PM} (h : S3 B g1 s1 g2 s2 g3 s3 N st w wr p q r c) (hp : Ph w4 B g1 p') (hps : p'.sb = p.sb) (hm : Mod (Two g1 p.sb) wr w4)
    (hq : Ph w5 B g2 q') (hqs : q'.sb = q.sb) (hm' : Mod (Two g2 q.sb) w4 w5) (ha : p'.abs = m) (hb : q'.abs = m) (hg : Good N st m c) : S3 B g1 s1 g2 s2 g3 s3 N st w w5 p' q' r c := by
  have hq4 : Ph w4 B g2 q := Ph.other h.pair.hp h.pair.hq hm h.pair.hg.symm (by rw [h.pair.sp, h.pair.sq]; exact h.pair.hs.symm)
  have hr4 : Ph w4 B g3 r := Ph.other h.pair.hp h.hr hm h.d1 (by rw [h.pair.sp, h.sr]; exact h.e1)
  have b1 : Below B wr w4 := hm.below (fun i _ e => by
      rcases e with rfl | rfl
      · exact h.pair.hp.bg
      · exact h.pair.hp.bs) h.le
  have b2 : Below B w4 w5 := hm'.below (fun i _ e => by
      rcases e with rfl | rfl
      · exact h.pair.hq.bg
      · exact h.pair.hq.bs) (Nat.le_trans h.le b1.size)
  exact ⟨⟨Ph.other hq4 hp hm' h.pair.hg (by rw [hps, h.pair.sp, h.pair.sq]; exact h.pair.hs), hq, hps.trans h.pair.sp, hqs.trans h.pair.sq, h.pair.hg, h.pair.hs, hb.trans ha.symm⟩,
    Ph.other hq4 hr4 hm' h.d2 (by rw [h.sr, h.pair.sq]; exact h.e2), h.sr, h.d1, h.d2, h.e1, h.e2, (h.below.trans b1).trans b2, h.bw, by rw [ha]; exact hg, h.goodr⟩
theorem S3.below_ {B g1 s1 g2 s2 g3 s3 N : Nat} {st : Bool} {w wr w' : World} {p q r : PV} {c : Nat} (h : S3 B g1 s1 g2 s2 g3 s3 N st w wr p q r c) (hb : Below wr.heap.size wr w') : S3 B g1 s1 g2 s2 g3 s3 N st w w' p q r c :=
  ⟨⟨h.pair.hp.below hb, h.pair.hq.below hb, h.pair.sp, h.pair.sq, h.pair.hg, h.pair.hs, h.pair.abs⟩, h.hr.below hb, h.sr, h.d1, h.d2, h.e1, h.e2, below_then h.below hb h.le, h.bw, h.good, h.goodr⟩
theorem S3.drew {B g1 s1 g2 s2 g3 s3 N : Nat} {st : Bool} {w wr : World} {p q r : PV} {c : Nat} (h : S3 B g1 s1 g2 s2 g3 s3 N st w wr p q r c) : S3 B g1 s1 g2 s2 g3 s3 N st w wr.drew p q r c := h.below_ (Below.refl _ _).drew
end Go.Proofs.Ytcmicmghnmklnaa.Ph
