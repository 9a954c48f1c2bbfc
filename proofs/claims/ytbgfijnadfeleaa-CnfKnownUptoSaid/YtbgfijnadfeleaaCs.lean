/- slices.SortFunc, slices.Compact and slices.DeleteFunc of a clause of one's own, in this claim's words; cnf.Normal. Conditions: the memory, at most a million literals. -/
import Derived.Test.YtbgfijnadfeleaaCa
import Derived.Test.YtbgfijnadfeleaaSlc
namespace Go.Proofs.Ytbgfijnadfeleaa.Cs
open Go.RowKit Go.Proofs.Ytbgfijnadfeleaa.Mem Go.Proofs.Ytbgfijnadfeleaa.Sl Go.Proofs.Ytbgfijnadfeleaa.Cl Go.Proofs.Ytbgfijnadfeleaa.App Go.Proofs.Ytbgfijnadfeleaa.Cm Go.Shelf
open Go.Sort (putRow Holds grow sorted_unique_holds pdq_sorts pdq)
open Go.Proofs.Ytbgfijnadfeleaa.Cp (ltL normL bothL swo total sort_norm InR SS)
open Go.Proofs.Ytbgfijnadfeleaa.Co (cf order_any)
open Go.Proofs.Ytbgfijnadfeleaa.FnL (Pred enc_at below_then)
set_option linter.unusedVariables false

theorem cmp_lays (blk off size : Nat) (w : World) : CmpLays1 Try.prog 36 #[] (Value.int .i32) cf blk off size w := fun m os dk hs x y =>
  (order_any x y _).mono fun e w' ⟨he, o, hw⟩ => ⟨he, 0, #[o], by rw [hw, Go.Sort.alloc_eq_grow]; rfl⟩
def srt (l : List Int) : List Int := l.mergeSort fun x y => !(ltOf cf) y x
theorem srt_len (l : List Int) : (srt l).length = l.length := List.length_mergeSort l
theorem sort_any {base : Nat} {A : Option Addr} {n c : Nat} {l : List Int} {w : World} (hO : Own w base 27 A n c (LI l)) (hn : n ≤ 1000000) :
    Calls Try.prog 35 #[.slice A n c, .func (.func 36) #[] #[]] w fun e w' => e = .returned (.tuple #[]) ∧ Own w' base 27 A n c (LI (srt l)) ∧ Mem.Mod (fun i => A = some ⟨i, 0, none⟩) w w' := by
  have hO' := hO
  have eg : ∀ args w, (callFunc 36 args).run Try.prog w = .ok (.enter 36 args) w := enters_of Try.func36 (by kernel_rfl) rfl
  have hl : ∀ n : Nat, n ≤ 1000000 → Calls Try.prog 48 #[.int .u64 (n : Int)] w fun e w' => e = .returned (.int .i64 (Lib.bitLen n : Nat)) ∧ w' = w := fun n hn => by
    have h := Any.bits_Len (SlLaysF0.n15.bits (P := Try.prog) (ρ := Try.pdqL_ren) { Try.pdqL with }) (n : Int) w (by omega) (by omega)
    rw [Int.toNat_natCast] at h
    exact h
  rcases A with _ | ad
  · have hn0 : n = 0 ∧ c = 0 ∧ l = [] := by
      obtain ⟨h1, ⟨_, h2, h3⟩ | ⟨g, h2, _⟩⟩ := hO
      · have h4 : l = [] := by simpa [LI] using h3
        rw [h3] at h1
        exact ⟨h1, h2, h4⟩
      · cases h2
    obtain ⟨h1, h2, h3⟩ := hn0
    clear hO
    subst h1 h2 h3
    have HO := Lib.hid hO'
    have hp : ∀ lim : Int, Calls Try.prog 47 #[.slice none 0 0, .int .i64 0, .int .i64 0, .int .i64 lim, .func (.func 36) #[] #[]] w fun e w' => e = .returned (.tuple #[]) ∧ w' = w := fun lim =>
      AnyF.pdqsortCmpFunc_none (P := Try.prog) (ρ := Try.pdqL_ren) { Try.pdqL with } none 0 lim _ w
    have HL := Lib.hid (hl 0 (by omega))
    have HP := Lib.hid hp
    have HS := Lib.hid (show srt [] = [] from by simp [srt])
    clear hl hO' hp eg
    go_enter Try.func35, Try.ntmps35
    go_wp2_with fail
    refine HL.out.mono ?_
    rintro e w1 ⟨rfl, rfl⟩
    go_wp2_with fail
    refine (HP.out _).mono ?_
    rintro e w1 ⟨rfl, rfl⟩
    go_wp2
    go_end0
    exact ⟨rfl, by rw [HS.out]; exact HO.out, Mem.Mod.refl _ _⟩
  · obtain ⟨g, hg⟩ : ∃ g, ad = ⟨g, 0, none⟩ := by
      obtain ⟨_, ⟨h, _⟩ | ⟨g, h, _⟩⟩ := hO
      · cases h
      · cases h; exact ⟨g, rfl⟩
    subst hg
    obtain ⟨hH, hblk, hbg, hnc, hln⟩ := Cm.Own.holds hO
    have hsz : l.toArray.size = n := by simpa using hln
    have hp := Any.pdqsortCmpFunc_all (P := Try.prog) (ρ := Try.pdqL_ren) Try.pdqL (Value.int .i32) cf 36 #[] swo g 0 c l.toArray w eg (cmp_lays g 0 l.toArray.size w) ⟨fun _ => rfl, hH, hblk⟩ (l.toArray.size + 1) 0 l.toArray.size (Lib.bitLen l.toArray.size) l.toArray w (by omega) rfl (SW.start hH) (Nat.zero_le _) (Nat.le_refl _) (by omega)
      (Nat.lt_of_le_of_lt (Lib.bitLen_le l.toArray.size 62 (by omega) (by omega)) (by omega)) (Or.inl rfl)
    rw [hsz] at hp
    have HL := Lib.hid (hl n hn)
    have hpd := pdq_sorts (ltOf cf) swo l.toArray 0 l.toArray.size (Lib.bitLen l.toArray.size) true true (Nat.zero_le _) (Nat.le_refl _) (Or.inl rfl)
    have hun := sorted_unique_holds swo total l.toArray _ hpd.1 hpd.2
    rw [hsz] at hun
    have hun' : pdq (ltOf cf) l.toArray 0 n (Lib.bitLen n) true true = (srt l).toArray := Array.toList_inj.1 (hun.trans (by simp [srt]))
    clear hun
    have HP := Lib.hid (show Calls Try.prog 47 #[.slice (some ⟨g, 0, none⟩) n c, .int .i64 0, .int .i64 n, .int .i64 (Lib.bitLen n : Nat), .func (.func 36) #[] #[]] w (fun e w' => e = .returned (.tuple #[]) ∧ Own w' base 27 (some ⟨g, 0, none⟩) n c (LI (srt l)) ∧ Mem.Mod (fun i => (some ⟨g, 0, none⟩ : Option Addr) = some ⟨i, 0, none⟩) w w') from hp.mono fun e w' ⟨he, hq, os, hw⟩ => by
      refine ⟨he, ?_, ?_⟩
      · have h1 := Cm.Own.put (q := hq) hO (ys := srt l) (by rw [srt_len]; exact hln) (Nat.le_refl n)
        rw [List.take_of_length_le (by rw [srt_len]; omega)] at h1
        have h2 := h1.below (Cm.grow_below os)
        rw [hw]
        rw [hun']
        exact h2
      · rw [hw]
        exact (Cm.put_mod os).mono fun i _ h => by rw [h])
    clear hl hp eg hO hO' hH hpd hun' hsz hnc hbg
    have wr : IntKind.u64.wrap (n : Int) = n := by simp [IntKind.wrap, IntKind.bits, IntKind.signed]; omega
    go_enter Try.func35, Try.ntmps35
    go_wp2_with fail
    refine HL.out.mono ?_
    rintro e w1 ⟨rfl, rfl⟩
    go_wp2_with fail
    refine HP.out.mono ?_
    rintro e w1 ⟨rfl, h1, h2⟩
    go_wp2
    go_end0
    exact ⟨rfl, h1, h2⟩
end Go.Proofs.Ytbgfijnadfeleaa.Cs
