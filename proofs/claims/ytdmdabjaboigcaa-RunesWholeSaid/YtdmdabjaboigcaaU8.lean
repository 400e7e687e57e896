/-
  Plain facts on the forms of runes, as Go's own decoding and encoding have them. No condition.
-/
import Derived.Test.YtdmdabjaboigcaaEngC
set_option linter.all false
namespace Go.Eng
open Go

/-- a text's byte, as a number; 0 behind its end -/
abbrev nb (l : List UInt8) (k : Nat) : Nat := gb l k
/-- decoding at a text's beginning -/
def dl (l : List UInt8) : Nat × Nat :=
  let cont (k : Nat) : Bool := decide (k < l.length) && nb l k / 64 == 2
  let b0 := nb l 0
  if b0 < 0x80 then (b0, 1)
  else if b0 / 32 == 6 && cont 1 then
    let c := (b0 % 32) * 64 + nb l 1 % 64
    if c ≥ 0x80 then (c, 2) else (0xFFFD, 1)
  else if b0 / 16 == 14 && cont 1 && cont 2 then
    let c := (b0 % 16) * 4096 + (nb l 1 % 64) * 64 + nb l 2 % 64
    if c ≥ 0x800 && Utf8.valid c then (c, 3) else (0xFFFD, 1)
  else if b0 / 8 == 30 && cont 1 && cont 2 && cont 3 then
    let c := (b0 % 8) * 262144 + (nb l 1 % 64) * 4096 + (nb l 2 % 64) * 64 + nb l 3 % 64
    if c ≥ 0x10000 && Utf8.valid c then (c, 4) else (0xFFFD, 1)
  else (0xFFFD, 1)
theorem get!_eq (l : List UInt8) (k : Nat) : ((⟨l.toArray⟩ : ByteArray).get! k).toNat = nb l k := by
  simp only [ByteArray.get!, nb, gb]
  rw [getElem!_def]
  by_cases h : k < l.length
  · simp [List.getElem?_eq_getElem h, List.getD_eq_getElem?_getD]
  · simp [List.getElem?_eq_none (Nat.le_of_not_lt h), List.getD_eq_getElem?_getD]
    rfl
theorem nb_drop (l : List UInt8) (i k : Nat) : nb (l.drop i) k = nb l (i + k) := by
  simp [nb, gb, List.getD_eq_getElem?_getD, List.getElem?_drop]
theorem decode_eq (l : List UInt8) (i : Nat) : Utf8.decode ⟨l.toArray⟩ i = dl (l.drop i) := by
  have hc : ∀ k, (decide (i + k < (⟨l.toArray⟩ : ByteArray).size) : Bool) = decide (k < (l.drop i).length) := by
    intro k; rw [ofNat_toArray]; simp; omega
  simp only [Utf8.decode, dl, get!_eq, nb_drop, hc, Utf8.runeError, Nat.add_zero]
/-- a valid rune's form -/
def fm (c : Nat) : List Nat :=
  if c < 0x80 then [c] else if c < 0x800 then [0xC0 + c / 64, 0x80 + c % 64]
  else if c < 0x10000 then [0xE0 + c / 4096, 0x80 + c / 64 % 64, 0x80 + c % 64]
  else [0xF0 + c / 262144, 0x80 + c / 4096 % 64, 0x80 + c / 64 % 64, 0x80 + c % 64]
/-- the rune, or the one that stands for what is none -/
def rn (r : Int) : Nat := if Utf8.valid r then r.toNat else 0xFFFD
def fmb (c : Nat) : List UInt8 := (fm c).map UInt8.ofNat
def encB (c : Nat) : ByteArray :=
  let b (n : Nat) : UInt8 := UInt8.ofNat n
  if c < 0x80 then ⟨#[b c]⟩
  else if c < 0x800 then ⟨#[b (0xC0 + c / 64), b (0x80 + c % 64)]⟩
  else if c < 0x10000 then ⟨#[b (0xE0 + c / 4096), b (0x80 + c / 64 % 64), b (0x80 + c % 64)]⟩
  else ⟨#[b (0xF0 + c / 262144), b (0x80 + c / 4096 % 64), b (0x80 + c / 64 % 64), b (0x80 + c % 64)]⟩
theorem encB_eq (c : Nat) : (encB c).data.toList = fmb c := by
  unfold encB fmb fm
  simp only []
  split
  · rfl
  · split
    · rfl
    · split <;> rfl
theorem encode_eq (r : Int) : (Utf8.encode r).data.toList = fmb (rn r) := encB_eq (rn r)
def okr (c : Nat) : Prop := c < 0xD800 ∨ (0xE000 ≤ c ∧ c ≤ 0x10FFFF)
theorem valid_iff (r : Int) : Utf8.valid r = true ↔ 0 ≤ r ∧ okr r.toNat := by
  simp [Utf8.valid, okr]; omega
theorem valid_nat (c : Nat) : Utf8.valid (c : Int) = true ↔ okr c := by
  rw [valid_iff]; simp
theorem rn_ok (r : Int) : okr (rn r) := by
  unfold rn
  split
  · rename_i h; exact ((valid_iff r).1 h).2
  · right; decide
theorem rn_nat {c : Nat} (h : okr c) : rn (c : Int) = c := by
  unfold rn; rw [if_pos ((valid_nat c).2 h)]; simp
def wd (c : Nat) : Nat := if c < 0x80 then 1 else if c < 0x800 then 2 else if c < 0x10000 then 3 else 4
theorem fm_length (c : Nat) : (fm c).length = wd c := by
  unfold fm wd; split
  · rfl
  · split
    · rfl
    · split <;> rfl
theorem fmb_length (c : Nat) : (fmb c).length = wd c := by rw [fmb, List.length_map, fm_length]
theorem wd_pos (c : Nat) : 1 ≤ wd c ∧ wd c ≤ 4 := by unfold wd; split <;> (try split) <;> (try split) <;> omega
/-- does a text begin with the form of c? in numbers -/
def begins (l : List UInt8) (c : Nat) : Prop := wd c ≤ l.length ∧ ∀ k, k < wd c → nb l k = (fm c).getD k 0
theorem nb_fmb (c k : Nat) (hc : c ≤ 0x10FFFF) (hk : k < wd c) : nb (fmb c) k = (fm c).getD k 0 := by
  have hl : k < (fm c).length := by rw [fm_length]; exact hk
  simp only [nb, gb, fmb, List.getD_eq_getElem?_getD, List.getElem?_map, List.getElem?_eq_getElem hl, Option.map_some, Option.getD_some]
  rw [UInt8.toNat_ofNat']
  apply Nat.mod_eq_of_lt
  have : ∀ x ∈ fm c, x < 256 := by
    intro x hx
    unfold fm at hx
    split at hx
    · simp at hx; omega
    · split at hx
      · simp at hx; omega
      · split at hx <;> simp at hx <;> omega
  exact this _ (List.getElem_mem hl)
theorem begins_iff (l : List UInt8) (c : Nat) (hc : c ≤ 0x10FFFF) : begins l c ↔ l.take (wd c) = fmb c := by
  constructor
  · rintro ⟨h1, h2⟩
    apply List.ext_getElem?
    intro k
    by_cases hk : k < wd c
    · have e := (h2 k hk).trans (nb_fmb c k hc hk).symm
      have hl : k < l.length := by omega
      have hf : k < (fmb c).length := by rw [fmb_length]; exact hk
      rw [List.getElem?_take, if_pos hk, List.getElem?_eq_getElem hl, List.getElem?_eq_getElem hf]
      simp only [nb, gb, List.getD_eq_getElem?_getD, List.getElem?_eq_getElem hl, List.getElem?_eq_getElem hf, Option.getD_some] at e
      exact congrArg some (UInt8.toNat_inj.1 e)
    · rw [List.getElem?_take, if_neg hk, List.getElem?_eq_none (by rw [fmb_length]; omega)]
  · intro h
    have hl : wd c ≤ l.length := by
      have := congrArg List.length h
      rw [fmb_length, List.length_take] at this; omega
    refine ⟨hl, fun k hk => ?_⟩
    rw [← nb_fmb c k hc hk, ← h]
    simp [nb, gb, List.getD_eq_getElem?_getD, hk]
theorem fm0 (c : Nat) : (fm c).getD 0 0 = if c < 0x80 then c else if c < 0x800 then 0xC0 + c / 64 else if c < 0x10000 then 0xE0 + c / 4096 else 0xF0 + c / 262144 := by
  unfold fm; split
  · rfl
  · split
    · rfl
    · split <;> rfl
/-- a text that begins with the form of c is decoded as c -/
theorem dl_of_begins {l : List UInt8} {c : Nat} (hc : okr c) (h : begins l c) : dl l = (c, wd c) := by
  obtain ⟨h1, h2⟩ := h
  have hle : c ≤ 0x10FFFF := by rcases hc with h | h <;> omega
  unfold wd at h1 h2 ⊢
  unfold fm at h2
  unfold dl
  by_cases a1 : c < 0x80
  · simp only [a1, if_true] at h1 h2 ⊢
    have e0 := h2 0 (by omega)
    simp at e0
    simp [e0, a1]
  · by_cases a2 : c < 0x800
    · simp only [a1, a2, if_true, if_false] at h1 h2 ⊢
      have e0 := h2 0 (by omega); have e1 := h2 1 (by omega)
      simp at e0 e1
      have l1 : 1 < l.length := by omega
      have b0 : ¬ nb l 0 < 128 := by omega
      have b1 : nb l 0 / 32 = 6 := by omega
      have b2 : nb l 1 / 64 = 2 := by omega
      have b3 : nb l 0 % 32 * 64 + nb l 1 % 64 = c := by omega
      simp [b0, b1, b2, b3, l1, show c ≥ 128 by omega]
    · by_cases a3 : c < 0x10000
      · simp only [a1, a2, a3, if_true, if_false] at h1 h2 ⊢
        have e0 := h2 0 (by omega); have e1 := h2 1 (by omega); have e2 := h2 2 (by omega)
        simp at e0 e1 e2
        have l1 : 1 < l.length := by omega
        have l2 : 2 < l.length := by omega
        have b0 : ¬ nb l 0 < 128 := by omega
        have b1 : ¬ nb l 0 / 32 = 6 := by omega
        have b2 : nb l 0 / 16 = 14 := by omega
        have b3 : nb l 1 / 64 = 2 := by omega
        have b4 : nb l 2 / 64 = 2 := by omega
        have b5 : nb l 0 % 16 * 4096 + nb l 1 % 64 * 64 + nb l 2 % 64 = c := by omega
        have b6 := (valid_nat c).2 hc
        simp only [b5]
        simp [b0, b1, b2, b3, b4, l1, l2, b6, show c ≥ 2048 by omega]
      · simp only [a1, a2, a3, if_false] at h1 h2 ⊢
        have e0 := h2 0 (by omega); have e1 := h2 1 (by omega); have e2 := h2 2 (by omega); have e3 := h2 3 (by omega)
        simp at e0 e1 e2 e3
        have l1 : 1 < l.length := by omega
        have l2 : 2 < l.length := by omega
        have l3 : 3 < l.length := by omega
        have b0 : ¬ nb l 0 < 128 := by omega
        have b1 : ¬ nb l 0 / 32 = 6 := by omega
        have b2 : ¬ nb l 0 / 16 = 14 := by omega
        have b2' : nb l 0 / 8 = 30 := by omega
        have b3 : nb l 1 / 64 = 2 := by omega
        have b4 : nb l 2 / 64 = 2 := by omega
        have b4' : nb l 3 / 64 = 2 := by omega
        have b5 : nb l 0 % 8 * 262144 + nb l 1 % 64 * 4096 + nb l 2 % 64 * 64 + nb l 3 % 64 = c := by omega
        have b6 := (valid_nat c).2 hc
        simp only [b5]
        simp [b0, b1, b2, b2', b3, b4, b4', l1, l2, l3, b6, show c ≥ 65536 by omega]
/-- what is decoded is the form that the text begins with; else a broken byte -/
theorem dl_cases (l : List UInt8) (hl : 0 < l.length) : (okr (dl l).1 ∧ (dl l).2 = wd (dl l).1 ∧ begins l (dl l).1) ∨ (dl l = (0xFFFD, 1) ∧ ∀ c, okr c → ¬ begins l c) := by
  by_cases hx : ∃ c, okr c ∧ begins l c
  · obtain ⟨c, hc, hb⟩ := hx
    have := dl_of_begins hc hb
    rw [this]
    exact .inl ⟨hc, rfl, hb⟩
  · have hno : ∀ c, okr c → ¬ begins l c := fun c hc hb => hx ⟨c, hc, hb⟩
    refine .inr ⟨?_, hno⟩
    have hlt : ∀ k, nb l k < 256 := fun k => gb_lt l k
    have g0 := hlt 0; have g1 := hlt 1; have g2 := hlt 2; have g3 := hlt 3
    unfold dl
    simp only []
    by_cases a1 : nb l 0 < 128
    · exfalso
      refine hno (nb l 0) (.inl (by omega)) ⟨by unfold wd; rw [if_pos a1]; omega, fun k hk => ?_⟩
      unfold wd at hk; rw [if_pos a1] at hk
      obtain rfl : k = 0 := by omega
      unfold fm; rw [if_pos a1]; rfl
    rw [if_neg a1]
    split
    · rename_i h
      simp at h
      obtain ⟨h1, h2, h3⟩ := h
      split
      · rename_i hc
        exfalso
        have n1 : ¬ nb l 0 % 32 * 64 + nb l 1 % 64 < 128 := by omega
        have n2 : nb l 0 % 32 * 64 + nb l 1 % 64 < 2048 := by omega
        refine hno (nb l 0 % 32 * 64 + nb l 1 % 64) (.inl (by omega)) ⟨by unfold wd; rw [if_neg n1, if_pos n2]; omega, fun k hk => ?_⟩
        unfold wd at hk; rw [if_neg n1, if_pos n2] at hk
        unfold fm; rw [if_neg n1, if_pos n2]
        rcases (show k = 0 ∨ k = 1 by omega) with rfl | rfl <;> simp <;> omega
      · rfl
    · split
      · rename_i h0 h
        simp at h
        obtain ⟨⟨h1, h2, h3⟩, h4, h5⟩ := h
        split
        · rename_i hc
          exfalso
          simp at hc
          obtain ⟨hc1, hc2⟩ := hc
          have hok := (valid_nat (nb l 0 % 16 * 4096 + nb l 1 % 64 * 64 + nb l 2 % 64)).1 (by simpa using hc2)
          generalize hcc : nb l 0 % 16 * 4096 + nb l 1 % 64 * 64 + nb l 2 % 64 = c at *
          have n1 : ¬ c < 128 := by omega
          have n2 : ¬ c < 2048 := by omega
          have n3 : c < 65536 := by omega
          refine hno c hok ⟨by unfold wd; rw [if_neg n1, if_neg n2, if_pos n3]; omega, fun k hk => ?_⟩
          unfold wd at hk; rw [if_neg n1, if_neg n2, if_pos n3] at hk
          unfold fm; rw [if_neg n1, if_neg n2, if_pos n3]
          rcases (show k = 0 ∨ k = 1 ∨ k = 2 by omega) with rfl | rfl | rfl <;> simp <;> omega
        · rfl
      · split
        · rename_i h
          simp at h
          obtain ⟨⟨⟨h1, h2, h3⟩, h4, h5⟩, h6, h7⟩ := h
          split
          · rename_i hc
            exfalso
            simp at hc
            obtain ⟨hc1, hc2⟩ := hc
            have hok := (valid_nat (nb l 0 % 8 * 262144 + nb l 1 % 64 * 4096 + nb l 2 % 64 * 64 + nb l 3 % 64)).1 (by simpa using hc2)
            generalize hcc : nb l 0 % 8 * 262144 + nb l 1 % 64 * 4096 + nb l 2 % 64 * 64 + nb l 3 % 64 = c at *
            have n1 : ¬ c < 128 := by omega
            have n2 : ¬ c < 2048 := by omega
            have n3 : ¬ c < 65536 := by omega
            have n4 : c < 2097152 := by omega
            refine hno c hok ⟨by unfold wd; rw [if_neg n1, if_neg n2, if_neg n3]; omega, fun k hk => ?_⟩
            unfold wd at hk; rw [if_neg n1, if_neg n2, if_neg n3] at hk
            unfold fm; rw [if_neg n1, if_neg n2, if_neg n3]
            rcases (show k = 0 ∨ k = 1 ∨ k = 2 ∨ k = 3 by omega) with rfl | rfl | rfl | rfl <;> simp <;> omega
          · rfl
        · rfl
end Go.Eng
