/- slices.Clone of a clause; append to clauses and to rows of ints of one's own. Conditions: the memory, at most a million literals. -/
import Derived.Test.YtbbpebfgdcidjaaAppB
import Derived.Test.YtbbpebfgdcidjaaClB
import Derived.Lib.SliceRun
import Derived.Maps.AppendAt
namespace Go.Proofs.Ytbbpebfgdcidjaa.Ta
open Go.RowKit Go.Proofs.Ytbbpebfgdcidjaa.Mem Go.Proofs.Ytbbpebfgdcidjaa.Sl Go.Proofs.Ytbbpebfgdcidjaa.Cl Go.Proofs.Ytbbpebfgdcidjaa.App Go.Shelf
open Go.Proofs.Ytbbpebfgdcidjaa.FnL (enc_at below_then)
set_option linter.unusedVariables false

def LI (l : List Int) : List Value := l.map (Value.int .i32)
theorem one_LI {l : List Int} : ∀ u ∈ LI l, u.oneCell' = true := fun u hu => by
  obtain ⟨x, _, rfl⟩ := List.mem_map.1 hu; rfl
theorem clone_any {w : World} (a : Option Addr) (n c : Nat) (l : List Int) (hn : n = l.length) (hr : RdV w a (LI l)) (hmn : n ≤ 1000000) :
    Calls Try.prog 31 #[.slice a n c] w fun e w' => ∃ A c', e = .returned (.slice A n c') ∧ Own w' w.heap.size 30 A n c' (LI l) ∧ Below w.heap.size w w' := by
  rcases a with _ | ad
  · have hl : l = [] := by
      rcases l with _ | ⟨y, ys⟩
      · rfl
      · obtain ⟨b, off, e, _⟩ := hr (by simp [LI])
        cases e
    subst hl
    have hn0 : n = 0 := hn
    clear hn hr hmn
    subst hn0
    have he1 := fun (W : World) (A : Option Addr) (n c : Nat) => Lib.run_eql_slice_nil (P := Try.prog) W 36 30 A n c 0 0 Try.underlying36
    go_enter Try.func31, Try.ntmps31
    go_wp2
    go_ret
    exact ⟨none, 0, rfl, Own.nil _ _ _, Below.refl _ _⟩
  · obtain ⟨i0, hi⟩ := Option.isSome_iff_exists.1 (show (Try.prog.info? 30).isSome = true by kernel_rfl)
    have hz : (Try.prog.info? 30).map (fun i => (i.zero, i.size, i.bytes)) = some (some (.int .i32 0), 1, 4) := by kernel_rfl
    rw [hi] at hz
    injection hz with hz
    injection hz with hz0 hz
    injection hz with hz1 hz2
    have he1 := fun (W : World) (A : Option Addr) (n c : Nat) => Lib.run_eql_slice_nil (P := Try.prog) W 36 30 A n c 0 0 Try.underlying36
    have HR := Lib.hid hr
    have HN := Lib.hid hn
    clear hr hn
    go_enter Try.func31, Try.ntmps31
    have HW := Lib.hid (show Below w.heap.size w (w.alloc (.cells #[] 30)) from (Below.refl _ _).alloc (Nat.le_refl _) _)
    have HOW := Lib.hid fun (v' : Value) (w2 : World) (hown : w2.ownsRow w.heap.size 30 1 v' (0 + n) ([] ++ LI l)) => Own.of (by rwa [Nat.zero_add, List.nil_append] at hown)
    go_wp2_with (at_builtin; refine wpList_app rfl _ _ 36 rfl w.heap.size 30 i0 (.int .i32 0) 4 Try.underlying36 hi hz0 hz1 hz2 rfl (.slice (some ⟨w.heap.size, 0, none⟩) 0 0) 0 [] rfl ((Row.new w 30 []).own (Nat.le_refl _) (by decide) rfl) (some ad) n c (LI l) rfl (by simpa [LI] using HN.out) (HR.out.below HW.out) (fun h => by cases h) one_LI (by unfold maxLen; omega) (by omega) (by simp) ?_; intro v' w2 hown hgrow; obtain ⟨A, c', rfl, hO⟩ := HOW.out v' w2 hown; have HO := Lib.hid hO; have HB := Lib.hid (show Below w.heap.size w w2 from HW.out.trans ((Mod.grown hgrow).below (fun i _ e => by cases e; exact Nat.le_refl _) (by simp))); clear hown hgrow hO)
    go_ret
    exact ⟨A, c', rfl, HO.out, HB.out⟩
/-- Append to a row of one's own, and where the new slice lies. -/
theorem wpList_app_at {P : Program} {w : World} {ops : Array Oper} {rest : List Oper} {o : Oper} {a : Act} {Q : Exit → Act → World → Prop} (hgd : o.guard = none) (s x : Operand) (t : TypeId)
    (ho : o.op = .call { callee := .builtin .append, args := #[s, x], argTypes := #[t, t] })
    (base : Nat) (e : TypeId) (i : TypeInfo) (z : Value) (bytes : Nat) (ht : P.underlying t = some (.slice e)) (hi : P.info? e = some i) (hz : i.zero = some z)
    (hsize : i.size = 1) (hby : i.bytes = bytes) (hzs : z.cells.size = 1)
    (v : Value) (n : Nat) (xs : List Value) (hs : a.eval s = v) (hown : w.ownsRow base e 1 v n xs)
    (A : Option Addr) (m c : Nat) (news : List Value) (hx : a.eval x = .slice A m c) (hl : m = news.length) (hr : RdV w A news) (hnil : A = none → c = 0) (h1 : ∀ u ∈ news, u.oneCell' = true)
    (h63 : n + m ≤ maxLen) (hbytes : (n + m) * bytes ≤ 140737488355328) (hbase : base ≤ w.heap.size)
    (h : ∀ v' w', w'.ownsRow base e 1 v' (n + m) (xs ++ news) → w.grownBy w' v.ownBlock → (v'.ownBlock = v.ownBlock ∨ v'.ownBlock = some w.heap.size) → wpList P ops Q rest (a.put o.dst v') w') : wpList P ops Q (o :: rest) a w := by
  rcases A with _ | ad
  · have hm : news = [] := by
      rcases news with _ | ⟨y, ys⟩
      · rfl
      · obtain ⟨b, off, e, _⟩ := hr (by simp)
        cases e
    subst hm
    obtain rfl : m = 0 := hl
    obtain rfl := hnil rfl
    exact wpList_append_own_none hgd s x t ho base e i 1 ht hi v n xs hs hown hx (h v w (by simpa using hown) (grownBy_refl _ _) (.inl rfl))
  · refine wpList_append_own_at w hgd s x t ho base e i z 1 bytes ht hi hz hsize hby hzs (by decide) v n xs hs hown ad m c news hx (by omega) (fun j u hj => ?_) h1 h63 hbytes hbase (fun v' w' h1 h2 _ h3 => h v' w' h1 h2 h3)
    obtain ⟨b', off', e', _, hc'⟩ := RdV.at_ hr hj
    cases e'
    rw [Go.WideShapes.add_plain]
    exact hc'
theorem Own.plain {w : World} {base n c : Nat} {t : TypeId} {A : Option Addr} {xs : List Value} (h : Own w base t A n c xs) : ∀ ad, A = some ad → ad.spot = none ∧ ad.off = 0 := fun ad e => by
  obtain ⟨_, ⟨h1, _⟩ | ⟨g, h1, _⟩⟩ := h
  · rw [h1] at e; cases e
  · rw [h1] at e; cases e; exact ⟨rfl, rfl⟩
theorem own_mine {A : Option Addr} {n c i : Nat} (h : some i = (Value.slice A n c).ownBlock) (ha : ∀ ad, A = some ad → ad.spot = none ∧ ad.off = 0) : A = some ⟨i, 0, none⟩ := by
  rcases A with _ | ⟨b, o, s⟩
  · cases h
  · cases h
    obtain ⟨h1, h2⟩ := ha _ rfl
    simp at h1 h2
    subst h1 h2; rfl
theorem own_where {A A' : Option Addr} {n c n' c' k : Nat} (h : (Value.slice A' n' c').ownBlock = (Value.slice A n c).ownBlock ∨ (Value.slice A' n' c').ownBlock = some k) (ha : ∀ ad, A = some ad → ad.spot = none ∧ ad.off = 0) (i : Nat) (e : A' = some ⟨i, 0, none⟩) : A = some ⟨i, 0, none⟩ ∨ i = k := by
  subst e
  rcases h with h | h
  · exact .inl (own_mine h ha)
  · cases h; exact .inr rfl
theorem wpApp {w : World} {ops : Array Oper} {rest : List Oper} {o : Oper} {a : Act} {Q : Exit → Act → World → Prop} (hgd : o.guard = none) (s x : Operand)
    (ho : o.op = .call { callee := .builtin .append, args := #[s, x], argTypes := #[36, 36] })
    (base : Nat) (A : Option Addr) (n c : Nat) (xs : List Int) (hs : a.eval s = .slice A n c) (hown : Own w base 30 A n c (LI xs))
    (A2 : Option Addr) (m c2 : Nat) (news : List Int) (hx : a.eval x = .slice A2 m c2) (hl : m = news.length) (hr : RdV w A2 (LI news)) (hnil : A2 = none → c2 = 0)
    (h63 : n + m ≤ 4000000) (hbase : base ≤ w.heap.size) (r : Nat) (hrr : n + m = r)
    (h : ∀ A' c' w', Own w' base 30 A' r c' (LI (xs ++ news)) → Below base w w' → w.grownBy w' (Value.slice A n c).ownBlock → (∀ i, A' = some ⟨i, 0, none⟩ → A = some ⟨i, 0, none⟩ ∨ i = w.heap.size) → wpList Try.prog ops Q rest (a.put o.dst (.slice A' r c')) w') : wpList Try.prog ops Q (o :: rest) a w := by
  subst hrr
  obtain ⟨i0, hi⟩ := Option.isSome_iff_exists.1 (show (Try.prog.info? 30).isSome = true by kernel_rfl)
  have hz : (Try.prog.info? 30).map (fun i => (i.zero, i.size, i.bytes)) = some (some (.int .i32 0), 1, 4) := by kernel_rfl
  rw [hi] at hz
  injection hz with hz
  injection hz with hz0 hz
  injection hz with hz1 hz2
  refine wpList_app_at hgd s x 36 ho base 30 i0 (.int .i32 0) 4 Try.underlying36 hi hz0 hz1 hz2 rfl (.slice A n c) n (LI xs) hs hown.own A2 m c2 (LI news) hx (by simpa [LI] using hl) hr hnil one_LI (by unfold maxLen; omega) (by omega) hbase (fun v' w' h1 h2 h3 => ?_)
  obtain ⟨A', c', rfl, hO⟩ := Own.of h1
  exact h A' c' w' (by rw [LI, List.map_append]; exact hO) ((Mod.grown h2).below (fun i _ e => hown.block e) hbase) h2 (own_where h3 (Own.plain hown))
def LN (l : List Nat) : List Value := l.map fun (n : Nat) => Value.int .i64 (n : Int)
theorem one_LN {l : List Nat} : ∀ u ∈ LN l, u.oneCell' = true := fun u hu => by
  obtain ⟨x, _, rfl⟩ := List.mem_map.1 hu; rfl
theorem wpAppN {w : World} {ops : Array Oper} {rest : List Oper} {o : Oper} {a : Act} {Q : Exit → Act → World → Prop} (hgd : o.guard = none) (s x : Operand)
    (ho : o.op = .call { callee := .builtin .append, args := #[s, x], argTypes := #[31, 31] })
    (base : Nat) (A : Option Addr) (n c : Nat) (xs : List Nat) (hs : a.eval s = .slice A n c) (hown : Own w base 3 A n c (LN xs))
    (A2 : Option Addr) (m c2 : Nat) (news : List Nat) (hx : a.eval x = .slice A2 m c2) (hl : m = news.length) (hr : RdV w A2 (LN news)) (hnil : A2 = none → c2 = 0)
    (h63 : n + m ≤ 4000000) (hbase : base ≤ w.heap.size) (r : Nat) (hrr : n + m = r)
    (h : ∀ A' c' w', Own w' base 3 A' r c' (LN (xs ++ news)) → Below base w w' → w.grownBy w' (Value.slice A n c).ownBlock → (∀ i, A' = some ⟨i, 0, none⟩ → A = some ⟨i, 0, none⟩ ∨ i = w.heap.size) → wpList Try.prog ops Q rest (a.put o.dst (.slice A' r c')) w') : wpList Try.prog ops Q (o :: rest) a w := by
  subst hrr
  obtain ⟨i0, hi⟩ := Option.isSome_iff_exists.1 (show (Try.prog.info? 3).isSome = true by kernel_rfl)
  have hz : (Try.prog.info? 3).map (fun i => (i.zero, i.size, i.bytes)) = some (some (.int .i64 0), 1, 8) := by kernel_rfl
  rw [hi] at hz
  injection hz with hz
  injection hz with hz0 hz
  injection hz with hz1 hz2
  refine wpList_app_at hgd s x 31 ho base 3 i0 (.int .i64 0) 8 Try.underlying31 hi hz0 hz1 hz2 rfl (.slice A n c) n (LN xs) hs hown.own A2 m c2 (LN news) hx (by simpa [LN] using hl) hr hnil one_LN (by unfold maxLen; omega) (by omega) hbase (fun v' w' h1 h2 h3 => ?_)
  obtain ⟨A', c', rfl, hO⟩ := Own.of h1
  exact h A' c' w' (by rw [LN, List.map_append]; exact hO) ((Mod.grown h2).below (fun i _ e => hown.block e) hbase) h2 (own_where h3 (Own.plain hown))
end Go.Proofs.Ytbbpebfgdcidjaa.Ta
