/- Heaps as rows of numbers: up, down, what a heap's order is. Plain theorems, no condition. -/
import Derived.Test.YtienomdennbkpaaSl
namespace Go.Proofs.Ytienomdennbkpaa.He
set_option linter.unusedVariables false

def Kid (p c : Nat) : Prop := c = 2 * p + 1 ∨ c = 2 * p + 2
/-- From lo on, below n: each one is no greater than its children. -/
def HeapF (lo n : Nat) (f : Nat → Int) : Prop := ∀ p c, lo ≤ p → c < n → Kid p c → f p ≤ f c
/-- .. but for what touches i. -/
structure ExF (lo n : Nat) (f : Nat → Int) (i : Nat) : Prop where
  off : ∀ p c, lo ≤ p → c < n → Kid p c → p ≠ i → c ≠ i → f p ≤ f c
  grand : ∀ p c, lo ≤ p → Kid p i → c < n → Kid i c → f p ≤ f c
def OutF (n : Nat) (f : Nat → Int) (i : Nat) : Prop := ∀ c, c < n → Kid i c → f i ≤ f c
def InF (lo : Nat) (f : Nat → Int) (i : Nat) : Prop := ∀ p, lo ≤ p → Kid p i → f p ≤ f i
def swF (f : Nat → Int) (i j : Nat) : Nat → Int := fun k => if k = i then f j else if k = j then f i else f k
theorem swF_i (f : Nat → Int) (i j : Nat) : swF f i j i = f j := if_pos rfl
theorem swF_j (f : Nat → Int) {i j : Nat} (h : j ≠ i) : swF f i j j = f i := by unfold swF; rw [if_neg h, if_pos rfl]
theorem swF_k (f : Nat → Int) {i j k : Nat} (h : k ≠ i) (h2 : k ≠ j) : swF f i j k = f k := by unfold swF; rw [if_neg h, if_neg h2]
theorem heap_of {lo n : Nat} {f : Nat → Int} {i : Nat} (h : ExF lo n f i) (ho : OutF n f i) (hi : InF lo f i) : HeapF lo n f := fun p c hp hc hk => by
  by_cases h1 : p = i
  · subst h1; exact ho c hc hk
  by_cases h2 : c = i
  · subst h2; exact hi p hp hk
  exact h.off p c hp hc hk h1 h2
theorem ex_of {lo n : Nat} {f : Nat → Int} {i : Nat} (h : HeapF lo n f) (hi : i < n) (hlo : lo ≤ i) : ExF lo n f i :=
  ⟨fun p c hp hc hk _ _ => h p c hp hc hk, fun p c hp hk hc hk2 => by
    have := h p i hp hi hk
    have := h i c hlo hc hk2
    omega⟩
theorem down_step {lo n : Nat} {f : Nat → Int} {i j : Nat} (h : ExF lo n f i) (hlo : lo ≤ i) (hj : Kid i j) (hjn : j < n) (hle : ∀ c, c < n → Kid i c → f j ≤ f c) (hlt : f j < f i) : ExF lo n (swF f i j) j ∧ InF lo (swF f i j) j := by
  have hji : j ≠ i := by unfold Kid at hj; omega
  have hone : ∀ p, Kid p j → p = i := fun p hp => by unfold Kid at hp hj; omega
  refine ⟨⟨fun p c hp hc hk h1 h2 => ?_, fun p c hp hk hc hk2 => ?_⟩, fun p hp hk => ?_⟩
  · by_cases hpi : p = i
    · subst hpi
      have hci : c ≠ p := by unfold Kid at hk; omega
      rw [swF_i, swF_k f hci h2]
      exact hle c hc hk
    · by_cases hci : c = i
      · subst hci
        rw [swF_i, swF_k f hpi h1]
        exact h.grand p j hp hk hjn hj
      · rw [swF_k f hpi h1, swF_k f hci h2]
        exact h.off p c hp hc hk hpi hci
  · obtain rfl := hone p hk
    have hcj : c ≠ j := by unfold Kid at hk2; omega
    have hci : c ≠ p := by unfold Kid at hk2 hj; omega
    rw [swF_i, swF_k f hci hcj]
    exact h.off j c (by unfold Kid at hj; omega) hc hk2 hji hci
  · obtain rfl := hone p hk
    rw [swF_i, swF_j f hji]
    omega
theorem up_step {n : Nat} {f : Nat → Int} {i j : Nat} (h : ExF 0 n f j) (ho : OutF n f j) (hj : Kid i j) (hjn : j < n) (hlt : f j < f i) : ExF 0 n (swF f i j) i ∧ OutF n (swF f i j) i := by
  have hji : j ≠ i := by unfold Kid at hj; omega
  have hone : ∀ p, Kid p j → p = i := fun p hp => by unfold Kid at hp hj; omega
  refine ⟨⟨fun p c hp hc hk h1 h2 => ?_, fun p c hp hk hc hk2 => ?_⟩, fun c hc hk => ?_⟩
  · by_cases hcj : c = j
    · subst hcj
      exact absurd (hone p hk) h1
    · by_cases hpj : p = j
      · subst hpj
        rw [swF_j f hji, swF_k f h2 hcj]
        exact h.grand i c (Nat.zero_le _) hj hc hk
      · rw [swF_k f h1 hpj, swF_k f h2 hcj]
        exact h.off p c hp hc hk hpj hcj
  · have hpi : p ≠ i := by unfold Kid at hk; omega
    have hpj : p ≠ j := by unfold Kid at hk hj; omega
    have hij : i < n := by unfold Kid at hj; omega
    have h1 := h.off p i hp hij hk hpj (Ne.symm hji)
    rw [swF_k f hpi hpj]
    by_cases hcj : c = j
    · subst hcj
      rw [swF_j f hji]
      exact h1
    · have hci : c ≠ i := by unfold Kid at hk2; omega
      rw [swF_k f hci hcj]
      have h2 := h.off i c (Nat.zero_le _) hc hk2 (Ne.symm hji) hcj
      omega
  · rw [swF_i]
    by_cases hcj : c = j
    · subst hcj
      rw [swF_j f hji]
      omega
    · have hci : c ≠ i := by unfold Kid at hk; omega
      rw [swF_k f hci hcj]
      have h2 := h.off i c (Nat.zero_le _) hc hk (Ne.symm hji) hcj
      omega
theorem heap_root {n : Nat} {f : Nat → Int} (h : HeapF 0 n f) : ∀ i, i < n → f 0 ≤ f i := fun i => by
  induction i using Nat.strongRecOn with
  | ind i ih =>
    intro hi
    rcases Nat.eq_zero_or_pos i with rfl | hp
    · exact Int.le_refl _
    · have h1 := ih ((i - 1) / 2) (by omega) (by omega)
      have h2 := h ((i - 1) / 2) i (Nat.zero_le _) hi (by unfold Kid; omega)
      omega
theorem HeapF.less {lo n m : Nat} {f : Nat → Int} (h : HeapF lo n f) (hm : m ≤ n) : HeapF lo m f := fun p c hp hc hk => h p c hp (by omega) hk
theorem heap_top {n lo : Nat} (f : Nat → Int) (h : n ≤ 2 * lo + 1) : HeapF lo n f := fun p c hp hc hk => by unfold Kid at hk; omega
theorem heap_ext {lo n : Nat} {f g : Nat → Int} (h : HeapF lo n f) (e : ∀ i, i < n → g i = f i) : HeapF lo n g := fun p c hp hc hk => by
  rw [e p (by unfold Kid at hk; omega), e c hc]
  exact h p c hp hc hk
/-- Init's step. -/
theorem init_ex {n i : Nat} {f : Nat → Int} (h : HeapF (i + 1) n f) : ExF i n f i ∧ InF i f i :=
  ⟨⟨fun p c hp hc hk h1 h2 => h p c (by omega) hc hk, fun p c hp hk hc hk2 => by unfold Kid at hk; omega⟩, fun p hp hk => by unfold Kid at hk; omega⟩
/-- Where one is put at the end. -/
theorem push_ex {n : Nat} {f g : Nat → Int} (h : HeapF 0 n f) (e : ∀ i, i < n → g i = f i) : ExF 0 (n + 1) g n ∧ OutF (n + 1) g n :=
  ⟨⟨fun p c hp hc hk h1 h2 => by
      rw [e p (by unfold Kid at hk; omega), e c (by omega)]
      exact h p c hp (by omega) hk,
    fun p c hp hk hc hk2 => by unfold Kid at hk2; omega⟩, fun c hc hk => by unfold Kid at hk; omega⟩
/-- Where one's own number has turned. -/
theorem fix_ex {n i : Nat} {f g : Nat → Int} (h : HeapF 0 n f) (hi : i < n) (e : ∀ k, k < n → k ≠ i → g k = f k) : ExF 0 n g i :=
  ⟨fun p c hp hc hk h1 h2 => by
      rw [e p (by unfold Kid at hk; omega) h1, e c hc h2]
      exact h p c hp hc hk,
    fun p c hp hk hc hk2 => by
      rw [e p (by unfold Kid at hk; omega) (by unfold Kid at hk; omega), e c hc (by unfold Kid at hk2; omega)]
      have h1 := h p i hp hi hk
      have h2 := h i c (Nat.zero_le _) hc hk2
      omega⟩

/- Rows. -/
/-- A variable's number in the order: the greater the score, the less; then the lesser variable. -/
def kf (s : List Int) (v : Int) : Int := - (s.getD v.toNat 0) * 4294967296 + v
def vf (s l : List Int) : Nat → Int := fun i => kf s (l.getD i 0)
def befB (s : List Int) (a b : Int) : Bool := if s.getD a.toNat 0 = s.getD b.toNat 0 then decide (a < b) else decide (s.getD a.toNat 0 > s.getD b.toNat 0)
theorem bef_kf (s : List Int) {a b : Int} (ha : 0 ≤ a ∧ a < 4294967296) (hb : 0 ≤ b ∧ b < 4294967296) : befB s a b = decide (kf s a < kf s b) := by
  unfold befB kf
  generalize s.getD a.toNat 0 = x
  generalize s.getD b.toNat 0 = y
  by_cases h : x = y
  · rw [if_pos h]
    subst h
    congr 1
    apply propext
    omega
  · rw [if_neg h]
    congr 1
    apply propext
    omega
theorem kf_inj (s : List Int) {a b : Int} (ha : 0 ≤ a ∧ a < 4294967296) (hb : 0 ≤ b ∧ b < 4294967296) (h : kf s a = kf s b) : a = b := by
  unfold kf at h
  omega
def sw (l : List Int) (i j : Nat) : List Int := (l.set i (l.getD j 0)).set j (l.getD i 0)
theorem sw_len (l : List Int) (i j : Nat) : (sw l i j).length = l.length := by unfold sw; simp
theorem sw_at (l : List Int) {i j : Nat} (hi : i < l.length) (hj : j < l.length) (k : Nat) : (sw l i j).getD k 0 = if k = j then l.getD i 0 else if k = i then l.getD j 0 else l.getD k 0 := by
  unfold sw
  simp only [List.getD_eq_getElem?_getD, List.getElem?_set, List.length_set]
  by_cases h1 : k = j
  · subst h1; simp [hj]
  · by_cases h2 : k = i
    · subst h2; simp [hi, Ne.symm h1, h1]
    · simp [h1, h2, Ne.symm h1, Ne.symm h2]
theorem sw_vf (s l : List Int) {i j : Nat} (hi : i < l.length) (hj : j < l.length) : vf s (sw l i j) = swF (vf s l) i j := by
  funext k
  unfold vf swF
  rw [sw_at l hi hj k]
  by_cases h1 : k = j
  · subst h1
    by_cases h2 : k = i
    · subst h2; simp
    · simp [h2]
  · by_cases h2 : k = i
    · subst h2; simp [h1]
    · simp [h1, h2]
theorem sw_perm (l : List Int) {i j : Nat} (hi : i < l.length) (hj : j < l.length) : (sw l i j).Perm l := by
  have := List.set_set_perm hi hj
  unfold sw
  rw [List.getD_eq_getElem?_getD, List.getD_eq_getElem?_getD, List.getElem?_eq_getElem hi, List.getElem?_eq_getElem hj]
  exact this
/-- Where each one stands. -/
structure Pl (N : Nat) (l pl : List Int) : Prop where
  len : pl.length = N + 1
  nd : l.Nodup
  rg : ∀ x, x ∈ l → 1 ≤ x ∧ x ≤ N
  at_ : ∀ i, i < l.length → pl.getD (l.getD i 0).toNat 0 = i
  no : ∀ v : Nat, v ≤ N → (v : Int) ∉ l → pl.getD v 0 = -1
theorem getD_mem {l : List Int} {i : Nat} (h : i < l.length) : l.getD i 0 ∈ l := by
  rw [List.getD_eq_getElem?_getD, List.getElem?_eq_getElem h]
  exact List.getElem_mem h
theorem Pl.rgi {N : Nat} {l pl : List Int} (h : Pl N l pl) {i : Nat} (hi : i < l.length) : 1 ≤ l.getD i 0 ∧ l.getD i 0 ≤ N := h.rg _ (getD_mem hi)
theorem Pl.inj {N : Nat} {l pl : List Int} (h : Pl N l pl) {i j : Nat} (hi : i < l.length) (hj : j < l.length) (e : l.getD i 0 = l.getD j 0) : i = j := by
  have h1 := h.at_ i hi
  have h2 := h.at_ j hj
  rw [e] at h1
  omega
theorem getD_set (l : List Int) (i k : Nat) (x : Int) (hi : i < l.length) : (l.set i x).getD k 0 = if k = i then x else l.getD k 0 := by
  simp only [List.getD_eq_getElem?_getD, List.getElem?_set]
  by_cases h : i = k
  · subst h; simp [hi]
  · simp [h, Ne.symm h]
theorem Pl.sw {N : Nat} {l pl : List Int} (h : Pl N l pl) {i j : Nat} (hi : i < l.length) (hj : j < l.length) : Pl N (sw l i j) ((pl.set (l.getD j 0).toNat i).set (l.getD i 0).toNat j) := by
  have hp := sw_perm l hi hj
  have ri := h.rgi hi
  have rj := h.rgi hj
  refine ⟨by simp [h.len], hp.nodup_iff.2 h.nd, fun x hx => h.rg x (hp.mem_iff.1 hx), fun k hk => ?_, fun v hv hn => ?_⟩
  · rw [sw_len] at hk
    have rk := h.rgi hk
    rw [sw_at l hi hj k, getD_set _ _ _ _ (by rw [List.length_set, h.len]; omega), getD_set _ _ _ _ (by rw [h.len]; omega)]
    by_cases h1 : k = j
    · subst h1; simp
    · rw [if_neg h1]
      by_cases h2 : k = i
      · subst h2
        have hne : ¬ (l.getD j 0).toNat = (l.getD k 0).toNat := fun e => h1 (h.inj hk hj (by omega))
        rw [if_pos rfl, if_neg hne, if_pos rfl]
      · have hne : ¬ (l.getD k 0).toNat = (l.getD i 0).toNat := fun e => h2 (h.inj hk hi (by omega))
        have hne2 : ¬ (l.getD k 0).toNat = (l.getD j 0).toNat := fun e => h1 (h.inj hk hj (by omega))
        rw [if_neg h2, if_neg hne, if_neg hne2]
        exact h.at_ k hk
  · have hn' : (v : Int) ∉ l := fun hm => hn (hp.mem_iff.2 hm)
    have mi := getD_mem hi
    have mj := getD_mem hj
    rw [getD_set _ _ _ _ (by rw [List.length_set, h.len]; omega), getD_set _ _ _ _ (by rw [h.len]; omega)]
    have hne : ¬ v = (l.getD i 0).toNat := fun e => hn' (by rw [show (v : Int) = l.getD i 0 by omega]; exact mi)
    have hne2 : ¬ v = (l.getD j 0).toNat := fun e => hn' (by rw [show (v : Int) = l.getD j 0 by omega]; exact mj)
    rw [if_neg hne, if_neg hne2]
    exact h.no v hv hn'
theorem Pl.push {N : Nat} {l pl : List Int} (h : Pl N l pl) {v : Int} (hv : 1 ≤ v ∧ v ≤ N) (hn : v ∉ l) : Pl N (l ++ [v]) (pl.set v.toNat l.length) := by
  refine ⟨by simp [h.len], ?_, fun x hx => ?_, fun i hi => ?_, fun u hu hnu => ?_⟩
  · rw [List.nodup_append]
    exact ⟨h.nd, by simp, fun a ha b hb e => by rw [List.mem_singleton] at hb; subst hb; subst e; exact hn ha⟩
  · rcases List.mem_append.1 hx with hx | hx
    · exact h.rg x hx
    · rw [List.mem_singleton] at hx; subst hx; exact hv
  · rw [getD_set _ _ _ _ (by rw [h.len]; omega)]
    by_cases hi2 : i < l.length
    · have e : (l ++ [v]).getD i 0 = l.getD i 0 := by simp [List.getD_eq_getElem?_getD, List.getElem?_append_left hi2]
      have hr := h.rgi hi2
      have hne : ¬ (l.getD i 0).toNat = v.toNat := fun e => hn (by rw [show v = l.getD i 0 by omega]; exact getD_mem hi2)
      rw [e, if_neg hne]
      exact h.at_ i hi2
    · have hil : i = l.length := by simp at hi; omega
      subst hil
      have e : (l ++ [v]).getD l.length 0 = v := by simp [List.getD_eq_getElem?_getD]
      rw [e, if_pos rfl]
  · have hne : ¬ u = v.toNat := fun e => hnu (by rw [show (u : Int) = v by omega]; simp)
    rw [getD_set _ _ _ _ (by rw [h.len]; omega), if_neg hne]
    exact h.no u hu (fun hm => hnu (List.mem_append_left _ hm))
theorem Pl.pop {N : Nat} {l pl : List Int} {v : Int} (h : Pl N (l ++ [v]) pl) : Pl N l (pl.set v.toNat (-1)) := by
  have hv := h.rg v (by simp)
  have hnd := h.nd
  rw [List.nodup_append] at hnd
  have hn : v ∉ l := fun hm => hnd.2.2 v hm v (by simp) rfl
  refine ⟨by simp [h.len], hnd.1, fun x hx => h.rg x (List.mem_append_left _ hx), fun i hi => ?_, fun u hu hnu => ?_⟩
  · have e : (l ++ [v]).getD i 0 = l.getD i 0 := by simp [List.getD_eq_getElem?_getD, List.getElem?_append_left hi]
    have h1 := h.at_ i (by simp; omega)
    rw [e] at h1
    have hr := h.rg (l.getD i 0) (List.mem_append_left _ (getD_mem hi))
    have hne : ¬ (l.getD i 0).toNat = v.toNat := fun e => hn (by rw [show v = l.getD i 0 by omega]; exact getD_mem hi)
    rw [getD_set _ _ _ _ (by rw [h.len]; omega), if_neg hne]
    exact h1
  · rw [getD_set _ _ _ _ (by rw [h.len]; omega)]
    by_cases he : u = v.toNat
    · rw [if_pos he]
    · rw [if_neg he]
      refine h.no u hu (fun hm => ?_)
      rcases List.mem_append.1 hm with hm | hm
      · exact hnu hm
      · rw [List.mem_singleton] at hm; omega
end Go.Proofs.Ytienomdennbkpaa.He
