/- A heap in memory; what container/heap asks of it: before, Len, Less, Swap, Push, Pop. Conditions: the memory, at most 1048576 variables. -/
import Derived.Test.YtienomdennbkpaaHa
import Derived.Test.YtienomdennbkpaaAppB
import Derived.Test.YtienomdennbkpaaLtB
import Derived.Test.YtienomdennbkpaaKo
import Derived.BigQuiet
namespace Go.Proofs.Ytienomdennbkpaa.He
open Go.RowKit Go.Proofs.Ytienomdennbkpaa.Mem Go.Proofs.Ytienomdennbkpaa.Sl Go.Shelf
open Go.Proofs.Ytienomdennbkpaa.FnL (enc_at below_then)
open Go.Proofs.Ytienomdennbkpaa.Lt (Later wp_region_later)
set_option linter.unusedVariables false

def inI (x : Int) : Prop := -9223372036854775808 ≤ x ∧ x ≤ 9223372036854775807
def LZ (l : List Int) : List Value := l.map (Value.int .i64)
theorem LZ_at {l : List Int} {i : Nat} (h : i < l.length) : (LZ l)[i]? = some (.int .i64 (l.getD i 0)) := Sl.ints_at h
theorem LZ_len (l : List Int) : (LZ l).length = l.length := by unfold LZ; simp
theorem LZ_set (l : List Int) (i : Nat) (x : Int) : (LZ l).set i (.int .i64 x) = LZ (l.set i x) := by unfold LZ; rw [List.map_set]
theorem one_LZ {l : List Int} : ∀ u ∈ LZ l, u.oneCell' = true := fun u hu => by
  obtain ⟨x, _, rfl⟩ := List.mem_map.1 hu; rfl
/-- A heap without addresses: those in it as it holds them; their places; all scores. -/
structure HM where
  l : List Int
  pl : List Int
  s : List Int
/-- .. its addresses. -/
structure HA where
  g : Nat
  iA : Option Addr
  ic : Nat
  p : Nat
  pc : Nat
  s : Nat
  sc : Nat
/-- The heap's blocks. -/
def mine (q : HA) (i : Nat) : Prop := i = q.g ∨ i = q.p ∨ i = q.s ∨ q.iA = some ⟨i, 0, none⟩
def hcells (N : Nat) (q : HA) (m : HM) : Array Value := #[.slice q.iA m.l.length q.ic, .slice (some ⟨q.p, 0, none⟩) (N + 1) q.pc, .slice (some ⟨q.s, 0, none⟩) (N + 1) q.sc]
structure HR (w : World) (B N : Nat) (q : HA) (m : HM) : Prop where
  blk : Blk w q.g 56 (hcells N q m)
  inn : App.Own w B 3 q.iA m.l.length q.ic (LZ m.l)
  plr : Row w q.p 3 (LZ m.pl) q.pc
  scr : Row w q.s 2 (LZ m.s) q.sc
  ord : Pl N m.l m.pl
  sl : m.s.length = N + 1
  ap : ∀ i, q.iA = some ⟨i, 0, none⟩ → i ≠ q.p
  bg : B ≤ q.g ∧ B ≤ q.p ∧ B ≤ q.s
  hN : N ≤ 1048576
  pb : ∀ x, x ∈ m.pl → inI x
theorem Pl.lenN {N : Nat} {l pl : List Int} (h : Pl N l pl) : l.length ≤ N := by
  have h1 : l ⊆ (List.range N).map (fun i : Nat => (i : Int) + 1) := fun x hx => by
    have := h.rg x hx
    exact List.mem_map.2 ⟨(x - 1).toNat, List.mem_range.2 (by omega), by omega⟩
  have := h.nd.length_le_of_subset h1
  simpa using this
section
variable {w w' : World} {B N : Nat} {q : HA} {m : HM}
theorem HR.lenN (h : HR w B N q m) : m.l.length ≤ N := h.ord.lenN
theorem HR.iA (h : HR w B N q m) {i : Nat} (e : q.iA = some ⟨i, 0, none⟩) : B ≤ i ∧ i < w.heap.size ∧ ∃ cs, Blk w i 3 cs := by
  obtain ⟨_, ⟨e2, _⟩ | ⟨g, e2, h1, _, r, h3, _⟩⟩ := h.inn
  · rw [e] at e2; cases e2
  · rw [e] at e2
    cases e2
    exact ⟨h1, h3.lt, _, h3⟩
theorem HR.lt (h : HR w B N q m) {i : Nat} (hi : mine q i) : B ≤ i ∧ i < w.heap.size := by
  rcases hi with rfl | rfl | rfl | e
  · exact ⟨h.bg.1, h.blk.lt⟩
  · exact ⟨h.bg.2.1, h.plr.lt⟩
  · exact ⟨h.bg.2.2, h.scr.lt⟩
  · have := h.iA e; exact ⟨this.1, this.2.1⟩
theorem HR.typ (h : HR w B N q m) {i : Nat} (hi : mine q i) : ∃ t cs, Blk w i t cs ∧ (t = 56 ∨ t = 3 ∨ t = 2) := by
  rcases hi with rfl | rfl | rfl | e
  · exact ⟨_, _, h.blk, .inl rfl⟩
  · obtain ⟨r, h1, _⟩ := h.plr; exact ⟨_, _, h1, .inr (.inl rfl)⟩
  · obtain ⟨r, h1, _⟩ := h.scr; exact ⟨_, _, h1, .inr (.inr rfl)⟩
  · obtain ⟨_, _, cs, h1⟩ := h.iA e; exact ⟨_, _, h1, .inr (.inl rfl)⟩
theorem HR.mod {S : Nat → Prop} (h : HR w B N q m) (hm : Mod S w w') (hS : ∀ i, mine q i → ¬ S i) : HR w' B N q m :=
  ⟨h.blk.mod hm (hS _ (.inl rfl)), h.inn.mod hm (fun i _ e => hS i (.inr (.inr (.inr e)))), h.plr.mod hm (hS _ (.inr (.inl rfl))), h.scr.mod hm (hS _ (.inr (.inr (.inl rfl)))), h.ord, h.sl, h.ap, h.bg, h.hN, h.pb⟩
theorem HR.below (h : HR w B N q m) (hb : Below w.heap.size w w') : HR w' B N q m := h.mod (Mod.none_ hb (fun _ => False)) (fun _ _ => id)
theorem HR.drewN (h : HR w B N q m) (n : Nat) : HR (w.drewN n) B N q m := h.below (belowN (Below.refl _ _) n)
theorem HR.drew (h : HR w B N q m) : HR w.drew B N q m := h.below (Below.refl _ _).drew
theorem HR.low {B' : Nat} (h : HR w B N q m) (hb : B' ≤ B) : HR w B' N q m :=
  ⟨h.blk, h.inn.low hb, h.plr, h.scr, h.ord, h.sl, h.ap, ⟨by have := h.bg.1; omega, by have := h.bg.2.1; omega, by have := h.bg.2.2; omega⟩, h.hN, h.pb⟩
theorem HR.gp (h : HR w B N q m) : q.g ≠ q.p := by obtain ⟨r, h1, _⟩ := h.plr; exact h.blk.ne_ h1 (by decide)
theorem HR.gs (h : HR w B N q m) : q.g ≠ q.s := by obtain ⟨r, h1, _⟩ := h.scr; exact h.blk.ne_ h1 (by decide)
theorem HR.ps (h : HR w B N q m) : q.p ≠ q.s := by
  obtain ⟨r, h1, _⟩ := h.plr
  obtain ⟨r2, h2, _⟩ := h.scr
  exact h1.ne_ h2 (by decide)
theorem HR.gi (h : HR w B N q m) {i : Nat} (e : q.iA = some ⟨i, 0, none⟩) : i ≠ q.g ∧ i ≠ q.p ∧ i ≠ q.s := by
  obtain ⟨_, _, cs, h1⟩ := h.iA e
  obtain ⟨r2, h2, _⟩ := h.scr
  exact ⟨h1.ne_ h.blk (by decide), h.ap i e, h1.ne_ h2 (by decide)⟩
/-- A score's cell, a place's, a variable's. -/
theorem HR.sc_ (h : HR w B N q m) {v : Nat} (hv : v ≤ N) : w.cell? ⟨q.s, v, none⟩ = some (.int .i64 (m.s.getD v 0)) := h.scr.cell (LZ_at (by rw [h.sl]; omega))
theorem HR.pl_ (h : HR w B N q m) {v : Nat} (hv : v ≤ N) : w.cell? ⟨q.p, v, none⟩ = some (.int .i64 (m.pl.getD v 0)) := h.plr.cell (LZ_at (by rw [h.ord.len]; omega))
theorem HR.at_ (h : HR w B N q m) {i : Nat} (hi : i < m.l.length) : ∃ a, q.iA = some ⟨a, 0, none⟩ ∧ w.cell? ⟨a, i, none⟩ = some (.int .i64 (m.l.getD i 0)) ∧ w.frozen? ⟨a, i, none⟩ = false := by
  obtain ⟨a, e, _, hr⟩ := h.inn.row (by omega)
  exact ⟨a, e, hr.cell (LZ_at hi), hr.frozen _⟩
end
set_option maxRecDepth 100000 in
theorem before_any {w : World} {B N : Nat} {q : HA} {m : HM} (h : HR w B N q m) (a b : Nat) (ha : a ≤ N) (hb : b ≤ N) :
    Calls Try.prog 34 #[.pointer (some ⟨q.g, 0, none⟩), .int .i64 (a : Int), .int .i64 (b : Int)] w fun e w' => e = .returned (.bool (befB m.s a b)) ∧ ∃ k, w' = w.drewN k := by
  have c0 : w.cell? ⟨q.g, 2, none⟩ = some (.slice (some ⟨q.s, 0, none⟩) (N + 1) q.sc) := h.blk.cell 2
  have ca := h.sc_ ha
  have cb := h.sc_ hb
  have hN := h.hN
  have e1 : (a : Int) < (N : Int) + 1 := by omega
  have e2 : (b : Int) < (N : Int) + 1 := by omega
  have e3 : a < N + 1 := by omega
  have e4 : b < N + 1 := by omega
  have HE := Lib.hid (show befB m.s a b = if m.s.getD a 0 = m.s.getD b 0 then decide (a < b) else decide (m.s.getD b 0 < m.s.getD a 0) by unfold befB; simp only [Int.toNat_natCast, Int.ofNat_lt, gt_iff_lt])
  clear h
  generalize m.s.getD a 0 = x at *
  generalize m.s.getD b 0 = y at *
  go_enter Try.func34, Try.ntmps34
  by_cases hxy : x = y
  · have HF := Lib.hid (HE.out.trans (if_pos hxy))
    clear HE
    subst hxy
    go_wp2_with fail
    go_quiet (fail)
    go_wp2
    go_ret
    exact ⟨by rw [HF.out]; rfl, _, rfl⟩
  · have HF := Lib.hid (HE.out.trans (if_neg hxy))
    clear HE
    go_wp2_with fail
    go_quiet (fail)
    go_wp2_with fail
    go_quiet (fail)
    go_wp2
    go_ret
    exact ⟨by rw [HF.out]; rfl, _, World.drewN_drewN _ _ _⟩
theorem len_any {w : World} {B N : Nat} {q : HA} {m : HM} (h : HR w B N q m) :
    Calls Try.prog 91 #[.pointer (some ⟨q.g, 0, none⟩)] w fun e w' => e = .returned (.int .i64 (m.l.length : Int)) ∧ w = w' := by
  have c0 : w.cell? ⟨q.g, 0, none⟩ = some (.slice q.iA m.l.length q.ic) := h.blk.cell 0
  clear h
  go_enter Try.func91, Try.ntmps91
  go_wp2
  go_ret
  exact ⟨rfl, rfl⟩
theorem HR.vf {w : World} {B N : Nat} {q : HA} {m : HM} (h : HR w B N q m) {i : Nat} (hi : i < m.l.length) : ∃ a : Nat, m.l.getD i 0 = (a : Int) ∧ 1 ≤ a ∧ a ≤ N := by
  have := h.ord.rgi hi
  exact ⟨(m.l.getD i 0).toNat, by omega, by omega, by omega⟩
set_option maxRecDepth 100000 in
theorem less_any {w : World} {B N : Nat} {q : HA} {m : HM} (h : HR w B N q m) (i k : Nat) (hi : i < m.l.length) (hk : k < m.l.length) :
    Calls Try.prog 92 #[.pointer (some ⟨q.g, 0, none⟩), .int .i64 (i : Int), .int .i64 (k : Int)] w fun e w' => e = .returned (.bool (decide (vf m.s m.l i < vf m.s m.l k))) ∧ ∃ n, w' = w.drewN n := by
  have c0 : w.cell? ⟨q.g, 0, none⟩ = some (.slice q.iA m.l.length q.ic) := h.blk.cell 0
  obtain ⟨a, eA, ci, _⟩ := h.at_ hi
  obtain ⟨a', eA', ck, _⟩ := h.at_ hk
  obtain rfl : a = a' := by rw [eA] at eA'; cases eA'; rfl
  have hN := h.hN
  have hl := h.lenN
  obtain ⟨x, hx, hx1, hx2⟩ := h.vf hi
  obtain ⟨y, hy, hy1, hy2⟩ := h.vf hk
  have HE := Lib.hid (show befB m.s x y = decide (He.vf m.s m.l i < He.vf m.s m.l k) by
    rw [bef_kf m.s (by omega) (by omega)]
    unfold He.vf
    rw [hx, hy])
  rw [hx] at ci
  rw [hy] at ck
  rw [eA] at c0
  have e1 : (i : Int) < (m.l.length : Int) := by omega
  have e2 : (k : Int) < (m.l.length : Int) := by omega
  have HB := Lib.hid (fun n => before_any (h.drewN n) x y hx2 hy2)
  rw [HE.out] at HB
  clear h HE hx hy hx1 hy1 hx2 hy2 eA eA'
  generalize decide (He.vf m.s m.l i < He.vf m.s m.l k) = b at *
  generalize m.l.length = L at *
  go_enter Try.func92, Try.ntmps92
  go_wp2_with fail
  go_quiet ((go_at_call 34; exact qd (HB.out _) (fun k => ⟨_, World.drewN_drewN _ _ _⟩)))
  go_wp2
  go_ret
  exact ⟨rfl, _, rfl⟩
theorem HR.swap {w : World} {B N : Nat} {q : HA} {m : HM} (h : HR w B N q m) {i k : Nat} (hi : i < m.l.length) (hk : k < m.l.length) {a : Nat} (eA : q.iA = some ⟨a, 0, none⟩) {W : World}
    (hW : W = ((((w.setCell ⟨a, i, none⟩ (.int .i64 (m.l.getD k 0))).setCell ⟨a, k, none⟩ (.int .i64 (m.l.getD i 0))).setCell ⟨q.p, (m.l.getD k 0).toNat, none⟩ (.int .i64 i)).setCell ⟨q.p, (m.l.getD i 0).toNat, none⟩ (.int .i64 k))) :
    HR W B N q ⟨sw m.l i k, (m.pl.set (m.l.getD k 0).toNat i).set (m.l.getD i 0).toNat k, m.s⟩ ∧ Mod (mine q) w W := by
  have hm : Mod (fun j => j = a ∨ j = q.p) w W := by
    rw [hW]
    exact (((Mod.setCell (S := fun j => j = a ∨ j = q.p) (Mod.refl _ _) (p := ⟨a, i, none⟩) (.inl (.inl rfl)) _).setCell (p := ⟨a, k, none⟩) (.inl (.inl rfl)) _).setCell (p := ⟨q.p, (m.l.getD k 0).toNat, none⟩) (.inl (.inr rfl)) _).setCell (p := ⟨q.p, (m.l.getD i 0).toNat, none⟩) (.inl (.inr rfl)) _
  obtain ⟨n1, n2, n3⟩ := h.gi eA
  refine ⟨⟨?_, ?_, ?_, ?_, h.ord.sw hi hk, h.sl, h.ap, h.bg, h.hN, ?_⟩, hm.mono fun j _ e => e.elim (fun e => .inr (.inr (.inr (by rw [e]; exact eA)))) (fun e => .inr (.inl e))⟩
  · have := h.blk.mod hm (fun e => e.elim (fun e => n1 e.symm) (fun e => h.gp e))
    unfold hcells at this ⊢
    simp only [sw_len]
    exact this
  · have h1 := h.inn
    rw [eA] at h1 ⊢
    have h2 := App.Own.set_ (App.Own.set_ h1 i hi (.int .i64 (m.l.getD k 0))) k hk (.int .i64 (m.l.getD i 0))
    rw [LZ_set, LZ_set] at h2
    have h3 := h2.mod (Mod.setCell (S := fun j => j = q.p) (Mod.setCell (S := fun j => j = q.p) (Mod.refl _ _) (p := ⟨q.p, (m.l.getD k 0).toNat, none⟩) (.inl rfl) (.int .i64 i)) (p := ⟨q.p, (m.l.getD i 0).toNat, none⟩) (.inl rfl) (.int .i64 k)) (fun j _ e => fun e2 => by cases e; exact n2 e2)
    rw [hW]
    show App.Own _ B _ _ (sw m.l i k).length _ _
    rw [sw_len]
    exact h3
  · have ri := h.ord.rgi hi
    have rk := h.ord.rgi hk
    have h1 := h.plr.mod (Mod.setCell (S := fun j => j = a) (Mod.setCell (S := fun j => j = a) (Mod.refl _ _) (p := ⟨a, i, none⟩) (.inl rfl) (.int .i64 (m.l.getD k 0))) (p := ⟨a, k, none⟩) (.inl rfl) (.int .i64 (m.l.getD i 0))) (fun e => n2 e.symm)
    have h2 := (h1.set_ (m.l.getD k 0).toNat (by rw [LZ_len, h.ord.len]; omega) (.int .i64 i)).set_ (m.l.getD i 0).toNat (by rw [List.length_set, LZ_len, h.ord.len]; omega) (.int .i64 k)
    rw [LZ_set, LZ_set] at h2
    rw [hW]
    exact h2
  · exact h.scr.mod hm (fun e => e.elim (fun e => n3 e.symm) (fun e => h.ps e.symm))
  · intro x hx
    have hl := h.lenN
    have hN := h.hN
    rcases List.mem_or_eq_of_mem_set hx with hx | rfl
    · rcases List.mem_or_eq_of_mem_set hx with hx | rfl
      · exact h.pb x hx
      · unfold inI; omega
    · unfold inI; omega
end Go.Proofs.Ytienomdennbkpaa.He
