/- Plain facts on the extended Hamming code over natural numbers below 2^64: no program is named here. -/
namespace Go.Proofs.YtpigonlbdleaeaaDoor.Ham

def synF (w : Nat) : Nat → Nat
  | 0 => 0
  | n + 1 => synF w n ^^^ (if w.testBit n then n else 0)
def onesF (w : Nat) : Nat → Nat
  | 0 => 0
  | n + 1 => onesF w n + (if w.testBit n then 1 else 0)
def syn (w : Nat) : Nat := synF w 64
def ones (w : Nat) : Nat := onesF w 64
/-- The positions of the data bits. -/
def pl : List Nat := [3, 5, 6, 7, 9, 10, 11, 12, 13, 14, 15, 17, 18, 19, 20, 21, 22, 23, 24, 25, 26, 27, 28, 29, 30, 31, 33, 34, 35, 36, 37, 38, 39, 40, 41, 42, 43, 44, 45, 46, 47, 48, 49, 50, 51, 52, 53, 54, 55, 56, 57, 58, 59, 60, 61, 62, 63]
def place (i : Nat) : Nat := pl.getD i 0
def spF (d : Nat) : Nat → Nat
  | 0 => 0
  | n + 1 => spF d n ||| (if d.testBit n then 2 ^ place n else 0)
def sp (d : Nat) : Nat := spF d 57
def pbF (s : Nat) : Nat → Nat
  | 0 => 0
  | n + 1 => pbF s n ||| (if s.testBit n then 2 ^ (2 ^ n) else 0)
def pb (s : Nat) : Nat := pbF s 6
def enc0 (d : Nat) : Nat := sp d ||| pb (syn (sp d))
def enc (d : Nat) : Nat := enc0 d ||| (if ones (enc0 d) % 2 = 1 then 1 else 0)
def dataF (w : Nat) : Nat → Nat
  | 0 => 0
  | n + 1 => dataF w n ||| (if w.testBit (place n) then 2 ^ n else 0)
def data (w : Nat) : Nat := dataF w 57
def check (w : Nat) : Nat := if ones w % 2 = 1 then 1 else if syn w ≠ 0 then 2 else 0
def flip (w i : Nat) : Nat := w ^^^ 2 ^ i
/-- A code word. -/
def code (w : Nat) : Prop := syn w = 0 ∧ ones w % 2 = 0

/-! ### linear -/
theorem xor_lc (a b c : Nat) : a ^^^ (b ^^^ c) = b ^^^ (a ^^^ c) := by rw [← Nat.xor_assoc, Nat.xor_comm a b, Nat.xor_assoc]
theorem synF_xor (a b : Nat) : ∀ n, synF (a ^^^ b) n = synF a n ^^^ synF b n
  | 0 => by simp [synF]
  | n + 1 => by
    simp only [synF, synF_xor a b n, Nat.testBit_xor]
    have h1 : ∀ x y : Nat, x ^^^ y ^^^ n = x ^^^ n ^^^ y := fun x y => by rw [Nat.xor_assoc, Nat.xor_comm y, Nat.xor_assoc]
    have h2 : ∀ x y : Nat, x ^^^ y = x ^^^ n ^^^ (y ^^^ n) := fun x y => by rw [Nat.xor_comm y, ← Nat.xor_assoc, Nat.xor_assoc x, Nat.xor_self, Nat.xor_zero]
    cases a.testBit n <;> cases b.testBit n
    · simp
    · simp [Nat.xor_assoc]
    · simpa using h1 _ _
    · simpa using h2 _ _
theorem syn_xor (a b : Nat) : syn (a ^^^ b) = syn a ^^^ syn b := synF_xor a b 64
theorem onesF_xor (a b : Nat) : ∀ n, onesF (a ^^^ b) n % 2 = (onesF a n + onesF b n) % 2
  | 0 => rfl
  | n + 1 => by
    have h := onesF_xor a b n
    simp only [onesF, Nat.testBit_xor]
    cases a.testBit n <;> cases b.testBit n <;> simp <;> omega
theorem ones_xor (a b : Nat) : ones (a ^^^ b) % 2 = (ones a + ones b) % 2 := onesF_xor a b 64
theorem synF_pow (i : Nat) : ∀ n, synF (2 ^ i) n = if i < n then i else 0
  | 0 => rfl
  | n + 1 => by
    simp only [synF, synF_pow i n, Nat.testBit_two_pow]
    by_cases h : i = n
    · subst h; simp
    · by_cases h2 : i < n
      · simp [h, h2, Nat.lt_succ_of_lt h2]
      · have : ¬ i < n + 1 := by omega
        simp [h, h2, this]
theorem onesF_pow (i : Nat) : ∀ n, onesF (2 ^ i) n = if i < n then 1 else 0
  | 0 => rfl
  | n + 1 => by
    simp only [onesF, onesF_pow i n, Nat.testBit_two_pow]
    by_cases h : i = n
    · subst h; simp
    · by_cases h2 : i < n
      · simp [h, h2, Nat.lt_succ_of_lt h2]
      · have : ¬ i < n + 1 := by omega
        simp [h, h2, this]
theorem syn_pow {i : Nat} (h : i < 64) : syn (2 ^ i) = i := by rw [syn, synF_pow, if_pos h]
theorem ones_pow {i : Nat} (h : i < 64) : ones (2 ^ i) = 1 := by rw [ones, onesF_pow, if_pos h]
theorem syn_zero : syn 0 = 0 := by decide +kernel
theorem ones_zero : ones 0 = 0 := by decide +kernel
theorem synF_lt (w : Nat) : ∀ n, n ≤ 64 → synF w n < 64
  | 0, _ => by simp [synF]
  | n + 1, h => by
    simp only [synF]
    have := synF_lt w n (by omega)
    exact Nat.xor_lt_two_pow (n := 6) this (by split <;> omega)
theorem syn_lt (w : Nat) : syn w < 64 := synF_lt w 64 (by omega)
theorem onesF_le (w : Nat) : ∀ n, onesF w n ≤ n
  | 0 => by simp [onesF]
  | n + 1 => by
    have := onesF_le w n
    simp only [onesF]
    split <;> omega
theorem ones_le (w : Nat) : ones w ≤ 64 := onesF_le w 64

/-! ### bits -/
theorem eq_of_bits {a b : Nat} (ha : a < 2 ^ 64) (hb : b < 2 ^ 64) (h : ∀ i, i < 64 → a.testBit i = b.testBit i) : a = b := by
  apply Nat.eq_of_testBit_eq
  intro i
  by_cases hi : i < 64
  · exact h i hi
  · have e : ∀ x : Nat, x < 2 ^ 64 → x.testBit i = false := fun x hx => Nat.testBit_lt_two_pow (Nat.lt_of_lt_of_le hx (Nat.pow_le_pow_right (by decide) (by omega)))
    rw [e a ha, e b hb]
theorem bit_lt {a i : Nat} (ha : a < 2 ^ 64) (h : a.testBit i = true) : i < 64 := by
  apply Nat.lt_of_not_le
  intro hi
  rw [Nat.testBit_lt_two_pow (Nat.lt_of_lt_of_le ha (Nat.pow_le_pow_right (by decide) hi))] at h
  exact absurd h (by decide)
theorem or_eq_xor {a b : Nat} (h : ∀ i, a.testBit i = true → b.testBit i = true → False) : a ||| b = a ^^^ b := by
  apply Nat.eq_of_testBit_eq
  intro i
  rw [Nat.testBit_or, Nat.testBit_xor]
  have := h i
  cases ha : a.testBit i <;> cases hb : b.testBit i <;> simp_all
theorem xor_lt64 {a b : Nat} (ha : a < 2 ^ 64) (hb : b < 2 ^ 64) : a ^^^ b < 2 ^ 64 := Nat.xor_lt_two_pow ha hb
theorem pow_lt64 {i : Nat} (h : i < 64) : 2 ^ i < 2 ^ 64 := Nat.pow_lt_pow_right (by decide) h
theorem flip_lt {w i : Nat} (hw : w < 2 ^ 64) (hi : i < 64) : flip w i < 2 ^ 64 := xor_lt64 hw (pow_lt64 hi)

theorem place_lt : ∀ i, i < 57 → place i < 64 := by decide +kernel
theorem place_inj : ∀ i, i < 57 → ∀ j, j < 57 → place i = place j → i = j := by decide +kernel
theorem place_pow : ∀ i, i < 57 → ∀ k, k < 6 → place i ≠ 2 ^ k := by decide +kernel
theorem place_pos : ∀ i, i < 57 → place i ≠ 0 := by decide +kernel
theorem places_all : ∀ p, p < 64 → p = 0 ∨ (∃ k, k < 6 ∧ p = 2 ^ k) ∨ (∃ i, i < 57 ∧ p = place i) := by decide +kernel

theorem spF_bit (d p : Nat) : ∀ n, (spF d n).testBit p = true ↔ ∃ i, i < n ∧ place i = p ∧ d.testBit i = true
  | 0 => by simp [spF]
  | n + 1 => by
    rw [spF, Nat.testBit_or, Bool.or_eq_true, spF_bit d p n]
    constructor
    · rintro (⟨i, h, e, hb⟩ | h)
      · exact ⟨i, by omega, e, hb⟩
      · by_cases hd : d.testBit n = true
        · rw [if_pos hd, Nat.testBit_two_pow] at h
          exact ⟨n, by omega, by simpa using h, hd⟩
        · rw [if_neg hd] at h
          simp at h
    · rintro ⟨i, h, e, hb⟩
      by_cases hi : i = n
      · subst hi
        refine .inr ?_
        rw [if_pos hb, Nat.testBit_two_pow]
        simpa using e
      · exact .inl ⟨i, by omega, e, hb⟩
theorem pbF_bit (s p : Nat) : ∀ n, (pbF s n).testBit p = true ↔ ∃ k, k < n ∧ 2 ^ k = p ∧ s.testBit k = true
  | 0 => by simp [pbF]
  | n + 1 => by
    rw [pbF, Nat.testBit_or, Bool.or_eq_true, pbF_bit s p n]
    constructor
    · rintro (⟨i, h, e, hb⟩ | h)
      · exact ⟨i, by omega, e, hb⟩
      · by_cases hd : s.testBit n = true
        · rw [if_pos hd, Nat.testBit_two_pow] at h
          exact ⟨n, by omega, by simpa using h, hd⟩
        · rw [if_neg hd] at h
          simp at h
    · rintro ⟨i, h, e, hb⟩
      by_cases hi : i = n
      · subst hi
        refine .inr ?_
        rw [if_pos hb, Nat.testBit_two_pow]
        simpa using e
      · exact .inl ⟨i, by omega, e, hb⟩
theorem dataF_bit (w p : Nat) : ∀ n, (dataF w n).testBit p = (decide (p < n) && w.testBit (place p))
  | 0 => by simp [dataF]
  | n + 1 => by
    rw [dataF, Nat.testBit_or, dataF_bit w p n]
    by_cases hw : w.testBit (place n) = true
    · rw [if_pos hw, Nat.testBit_two_pow]
      by_cases h : n = p
      · subst h; simp [hw]
      · have e : decide (p < n + 1) = decide (p < n) := by
          by_cases h2 : p < n
          · simp [h2, Nat.lt_succ_of_lt h2]
          · have : ¬ p < n + 1 := by omega
            simp [h2, this]
        simp [h, e]
    · rw [if_neg hw]
      by_cases h : n = p
      · subst h; simp [hw]
      · have e : decide (p < n + 1) = decide (p < n) := by
          by_cases h2 : p < n
          · simp [h2, Nat.lt_succ_of_lt h2]
          · have : ¬ p < n + 1 := by omega
            simp [h2, this]
        simp [e]
theorem sp_bit {d i : Nat} (hi : i < 57) : (sp d).testBit (place i) = d.testBit i := by
  rw [Bool.eq_iff_iff, sp, spF_bit]
  constructor
  · rintro ⟨j, hj, e, hb⟩
    rw [← place_inj j hj i hi e]; exact hb
  · intro h; exact ⟨i, hi, rfl, h⟩
theorem sp_none {d p : Nat} (h : ∀ i, i < 57 → place i ≠ p) : (sp d).testBit p = false := by
  rw [Bool.eq_false_iff]
  intro hb
  obtain ⟨i, hi, e, _⟩ := (spF_bit d p 57).1 hb
  exact h i hi e
theorem data_bit {w i : Nat} (hi : i < 57) : (data w).testBit i = w.testBit (place i) := by rw [data, dataF_bit]; simp [hi]
theorem data_high {w i : Nat} (hi : 57 ≤ i) : (data w).testBit i = false := by
  rw [data, dataF_bit]
  have : ¬ i < 57 := by omega
  simp [this]
theorem data_lt (w : Nat) : data w < 2 ^ 57 := by
  apply Nat.lt_pow_two_of_testBit
  intro i hi
  exact data_high hi
theorem data_xor (a b : Nat) : data (a ^^^ b) = data a ^^^ data b := by
  apply Nat.eq_of_testBit_eq
  intro i
  rw [Nat.testBit_xor]
  by_cases hi : i < 57
  · rw [data_bit hi, data_bit hi, data_bit hi, Nat.testBit_xor]
  · rw [data_high (by omega), data_high (by omega), data_high (by omega)]; rfl
theorem sp_lt (d : Nat) : sp d < 2 ^ 64 := by
  apply Nat.lt_pow_two_of_testBit
  intro p hp
  apply sp_none
  intro i hi e
  have := place_lt i hi
  omega
theorem sp_xor (a b : Nat) : sp (a ^^^ b) = sp a ^^^ sp b := by
  apply Nat.eq_of_testBit_eq
  intro p
  rw [Nat.testBit_xor]
  by_cases h : ∃ i, i < 57 ∧ place i = p
  · obtain ⟨i, hi, rfl⟩ := h
    rw [sp_bit hi, sp_bit hi, sp_bit hi, Nat.testBit_xor]
  · have h' : ∀ i, i < 57 → place i ≠ p := fun i hi e => h ⟨i, hi, e⟩
    rw [sp_none h', sp_none h', sp_none h']; rfl

/-! ### the parity bits -/
theorem pb_facts : ∀ s, s < 64 → syn (pb s) = s ∧ pb s < 2 ^ 64 := by decide +kernel
theorem pb_xor : ∀ s, s < 64 → ∀ t, t < 64 → pb (s ^^^ t) = pb s ^^^ pb t := by decide +kernel
theorem sp_pb (d s : Nat) : sp d ||| pb s = sp d ^^^ pb s := by
  apply or_eq_xor
  intro i h1 h2
  obtain ⟨j, hj, e, _⟩ := (spF_bit d i 57).1 h1
  obtain ⟨k, hk, e2, _⟩ := (pbF_bit s i 6).1 h2
  exact place_pow j hj k hk (e.trans e2.symm)
theorem enc0_eq (d : Nat) : enc0 d = sp d ^^^ pb (syn (sp d)) := sp_pb _ _
theorem enc0_lt (d : Nat) : enc0 d < 2 ^ 64 := by rw [enc0_eq]; exact xor_lt64 (sp_lt d) (pb_facts _ (syn_lt _)).2
theorem enc0_syn (d : Nat) : syn (enc0 d) = 0 := by rw [enc0_eq, syn_xor, (pb_facts _ (syn_lt _)).1, Nat.xor_self]
theorem enc0_xor (a b : Nat) : enc0 (a ^^^ b) = enc0 a ^^^ enc0 b := by
  rw [enc0_eq, enc0_eq, enc0_eq, sp_xor, syn_xor, pb_xor _ (syn_lt _) _ (syn_lt _)]
  simp only [Nat.xor_assoc]
  congr 1
  rw [Nat.xor_comm (sp b), Nat.xor_assoc, Nat.xor_comm (pb (syn (sp b)))]
theorem enc0_zero (d : Nat) : (enc0 d).testBit 0 = false := by
  rw [enc0, Nat.testBit_or, Bool.or_eq_false_iff]
  refine ⟨sp_none (fun i hi => place_pos i hi), ?_⟩
  rw [Bool.eq_false_iff]
  intro h
  obtain ⟨k, hk, e, _⟩ := (pbF_bit _ 0 6).1 h
  have : 0 < 2 ^ k := Nat.pow_pos (by decide)
  omega
theorem enc_eq (d : Nat) : enc d = enc0 d ^^^ (if ones (enc0 d) % 2 = 1 then 1 else 0) := by
  rw [enc]
  apply or_eq_xor
  intro i h1 h2
  split at h2
  · have : i = 0 := by
      have h3 := Nat.testBit_two_pow (n := 0) (m := i)
      rw [show (2 : Nat) ^ 0 = 1 from rfl, h2] at h3
      have := h3.symm
      simp at this
      exact this.symm
    subst this
    rw [enc0_zero] at h1
    exact absurd h1 (by decide)
  · simp at h2
theorem enc_lt (d : Nat) : enc d < 2 ^ 64 := by
  rw [enc_eq]
  exact xor_lt64 (enc0_lt d) (by split <;> decide)
theorem enc_code (d : Nat) : code (enc d) := by
  rw [enc_eq]
  constructor
  · rw [syn_xor, enc0_syn]
    split <;> decide +kernel
  · rw [ones_xor]
    split
    · rename_i h
      have : ones 1 = 1 := by decide +kernel
      omega
    · rename_i h
      rw [ones_zero]; omega
theorem one_bit {i : Nat} (hi : i ≠ 0) : (1 : Nat).testBit i = false := by
  have h3 := Nat.testBit_two_pow (n := 0) (m := i)
  rw [show (2 : Nat) ^ 0 = 1 from rfl] at h3
  rw [h3]; simp; omega
theorem data_enc {d : Nat} (hd : d < 2 ^ 57) : data (enc d) = d := by
  apply Nat.eq_of_testBit_eq
  intro i
  by_cases hi : i < 57
  · rw [data_bit hi, enc, Nat.testBit_or, enc0, Nat.testBit_or, sp_bit hi]
    have h1 : (pb (syn (sp d))).testBit (place i) = false := by
      rw [Bool.eq_false_iff]
      intro h
      obtain ⟨k, hk, e, _⟩ := (pbF_bit _ _ 6).1 h
      exact place_pow i hi k hk e.symm
    have h2 : (if ones (enc0 d) % 2 = 1 then 1 else 0).testBit (place i) = false := by
      split
      · exact one_bit (place_pos i hi)
      · simp
    rw [enc0] at h2
    rw [h1, h2]; simp
  · rw [data_high (by omega), Nat.testBit_lt_two_pow (Nat.lt_of_lt_of_le hd (Nat.pow_le_pow_right (by decide) (by omega)))]

/-! ### a code word is determined by its data -/
def seven (b0 b1 b2 b3 b4 b5 b6 : Bool) : Nat :=
  (if b0 then 1 else 0) + (if b1 then 2 else 0) + (if b2 then 4 else 0) + (if b3 then 16 else 0) + (if b4 then 256 else 0) + (if b5 then 65536 else 0) + (if b6 then 4294967296 else 0)
theorem seven_code : ∀ b0 b1 b2 b3 b4 b5 b6, syn (seven b0 b1 b2 b3 b4 b5 b6) = 0 → ones (seven b0 b1 b2 b3 b4 b5 b6) % 2 = 0 → seven b0 b1 b2 b3 b4 b5 b6 = 0 := by decide +kernel
theorem seven_bits : ∀ b0 b1 b2 b3 b4 b5 b6, (seven b0 b1 b2 b3 b4 b5 b6).testBit 0 = b0 ∧ (seven b0 b1 b2 b3 b4 b5 b6).testBit 1 = b1 ∧ (seven b0 b1 b2 b3 b4 b5 b6).testBit 2 = b2 ∧ (seven b0 b1 b2 b3 b4 b5 b6).testBit 4 = b3 ∧ (seven b0 b1 b2 b3 b4 b5 b6).testBit 8 = b4 ∧ (seven b0 b1 b2 b3 b4 b5 b6).testBit 16 = b5 ∧ (seven b0 b1 b2 b3 b4 b5 b6).testBit 32 = b6 ∧ seven b0 b1 b2 b3 b4 b5 b6 < 2 ^ 64 := by decide +kernel
theorem seven_else : ∀ b0 b1 b2 b3 b4 b5 b6, ∀ i, i < 57 → (seven b0 b1 b2 b3 b4 b5 b6).testBit (place i) = false := by decide +kernel
theorem kernel_zero {z : Nat} (hz : z < 2 ^ 64) (hc : code z) (hd : data z = 0) : z = 0 := by
  have e : z = seven (z.testBit 0) (z.testBit 1) (z.testBit 2) (z.testBit 4) (z.testBit 8) (z.testBit 16) (z.testBit 32) := by
    obtain ⟨s0, s1, s2, s4, s8, s16, s32, hs⟩ := seven_bits (z.testBit 0) (z.testBit 1) (z.testBit 2) (z.testBit 4) (z.testBit 8) (z.testBit 16) (z.testBit 32)
    apply eq_of_bits hz hs
    intro p hp
    rcases places_all p hp with rfl | ⟨k, hk, rfl⟩ | ⟨i, hi, rfl⟩
    · exact s0.symm
    · match k, hk with
      | 0, _ => exact s1.symm
      | 1, _ => exact s2.symm
      | 2, _ => exact s4.symm
      | 3, _ => exact s8.symm
      | 4, _ => exact s16.symm
      | 5, _ => exact s32.symm
    · rw [seven_else _ _ _ _ _ _ _ i hi, ← data_bit hi, hd]; simp
  obtain ⟨h1, h2⟩ := hc
  rw [e] at h1 h2 ⊢
  exact seven_code _ _ _ _ _ _ _ h1 h2
theorem xor_eq_zero {a b : Nat} (h : a ^^^ b = 0) : a = b := by
  have : a ^^^ (a ^^^ b) = b := by rw [← Nat.xor_assoc, Nat.xor_self, Nat.zero_xor]
  rw [h, Nat.xor_zero] at this
  exact this
theorem code_xor {a b : Nat} (ha : code a) (hb : code b) : code (a ^^^ b) := by
  refine ⟨by rw [syn_xor, ha.1, hb.1]; rfl, ?_⟩
  rw [ones_xor]; have := ha.2; have := hb.2; omega
theorem code_unique {a b : Nat} (ha : a < 2 ^ 64) (hb : b < 2 ^ 64) (ca : code a) (cb : code b) (h : data a = data b) : a = b :=
  xor_eq_zero (kernel_zero (xor_lt64 ha hb) (code_xor ca cb) (by rw [data_xor, h, Nat.xor_self]))
theorem enc_data {w : Nat} (hw : w < 2 ^ 64) (hc : code w) : enc (data w) = w := code_unique (enc_lt _) hw (enc_code _) hc (data_enc (data_lt w))
theorem enc_xor {a b : Nat} (ha : a < 2 ^ 57) (hb : b < 2 ^ 57) : enc (a ^^^ b) = enc a ^^^ enc b :=
  code_unique (enc_lt _) (xor_lt64 (enc_lt _) (enc_lt _)) (enc_code _) (code_xor (enc_code _) (enc_code _))
    (by rw [data_enc (Nat.xor_lt_two_pow ha hb), data_xor, data_enc ha, data_enc hb])
theorem enc_inj {a b : Nat} (ha : a < 2 ^ 57) (hb : b < 2 ^ 57) (h : enc a = enc b) : a = b := by rw [← data_enc ha, h, data_enc hb]

/-! ### check, flips, distances -/
theorem check_code {w : Nat} : check w = 0 ↔ code w := by
  unfold check code
  by_cases h : ones w % 2 = 1
  · simp [h]
  · have : ones w % 2 = 0 := by omega
    by_cases h2 : syn w = 0 <;> simp [h2, this]
theorem check_odd {w : Nat} : check w = 1 ↔ ones w % 2 = 1 := by
  unfold check
  by_cases h : ones w % 2 = 1
  · simp [h]
  · by_cases h2 : syn w = 0
    · simp [h2]
    · simp [h, h2]
theorem check_two {w : Nat} : check w = 2 ↔ ones w % 2 = 0 ∧ syn w ≠ 0 := by
  unfold check
  by_cases h : ones w % 2 = 1
  · simp [h]
  · have : ones w % 2 = 0 := by omega
    by_cases h2 : syn w = 0 <;> simp [h2, this]
theorem check_le (w : Nat) : check w ≤ 2 := by unfold check; split <;> try split
                                               all_goals omega
theorem flip_syn {w i : Nat} (hi : i < 64) : syn (flip w i) = syn w ^^^ i := by rw [flip, syn_xor, syn_pow hi]
theorem flip_ones {w i : Nat} (hi : i < 64) : ones (flip w i) % 2 = (ones w + 1) % 2 := by rw [flip, ones_xor, ones_pow hi]
theorem flip_flip (w i : Nat) : flip (flip w i) i = w := by rw [flip, flip, Nat.xor_assoc, Nat.xor_self, Nat.xor_zero]
theorem flip_code {w i : Nat} (hi : i < 64) : code (flip w i) ↔ ones w % 2 = 1 ∧ i = syn w := by
  unfold code
  rw [flip_syn hi, flip_ones hi]
  constructor
  · rintro ⟨h1, h2⟩
    exact ⟨by omega, (xor_eq_zero h1).symm⟩
  · rintro ⟨h1, rfl⟩
    exact ⟨Nat.xor_self _, by omega⟩

theorem bit_ones {z i : Nat} : ∀ n, i < n → z.testBit i = true → onesF (z ^^^ 2 ^ i) n + 1 = onesF z n
  | 0, h, _ => by omega
  | n + 1, h, hb => by
    simp only [onesF, Nat.testBit_xor, Nat.testBit_two_pow]
    by_cases e : i = n
    · subst e
      have : ∀ m, m ≤ i → onesF (z ^^^ 2 ^ i) m = onesF z m := by
        intro m
        induction m with
        | zero => intro _; rfl
        | succ m ih =>
          intro hm
          simp only [onesF, Nat.testBit_xor, Nat.testBit_two_pow]
          rw [ih (by omega)]
          have : i ≠ m := by omega
          simp [this]
      rw [this i (Nat.le_refl _)]
      simp [hb]
    · have := bit_ones (z := z) n (by omega) hb
      simp [e]
      omega
theorem ones_zero_bits {z : Nat} : ∀ n, onesF z n = 0 → ∀ i, i < n → z.testBit i = false
  | 0, _, i, h => by omega
  | n + 1, h, i, hi => by
    simp only [onesF] at h
    by_cases e : i = n
    · subst e
      cases hb : z.testBit i
      · rfl
      · rw [hb] at h; simp at h
    · exact ones_zero_bits n (by omega) i (by omega)
theorem ones_none {z : Nat} (hz : z < 2 ^ 64) (h : ones z = 0) : z = 0 :=
  eq_of_bits hz (by decide) (fun i hi => by rw [ones_zero_bits 64 h i hi]; simp)
theorem some_bit {z : Nat} (hz : z < 2 ^ 64) (h : z ≠ 0) : ∃ i, i < 64 ∧ z.testBit i = true := by
  apply Classical.byContradiction
  intro hn
  apply h
  apply eq_of_bits hz (by decide)
  intro i hi
  simp only [Nat.zero_testBit]
  rw [Bool.eq_false_iff]
  intro hb
  exact hn ⟨i, hi, hb⟩
theorem ones_step {z : Nat} (hz : z < 2 ^ 64) {k : Nat} (h : ones z = k + 1) : ∃ i, i < 64 ∧ z.testBit i = true ∧ ones (flip z i) = k := by
  obtain ⟨i, hi, hb⟩ := some_bit hz (by intro e; rw [e, ones_zero] at h; omega)
  refine ⟨i, hi, hb, ?_⟩
  have := bit_ones (z := z) 64 hi hb
  unfold ones flip at *
  omega
theorem ones_two {z : Nat} (hz : z < 2 ^ 64) (h : ones z = 2) : syn z ≠ 0 := by
  obtain ⟨i, hi, hb, h1⟩ := ones_step hz h
  obtain ⟨j, hj, hb2, h2⟩ := ones_step (flip_lt hz hi) h1
  have h3 := ones_none (flip_lt (flip_lt hz hi) hj) h2
  intro hs
  have h4 : syn (flip (flip z i) j) = 0 := by rw [h3]; exact syn_zero
  rw [flip_syn hj, flip_syn hi, hs, Nat.zero_xor] at h4
  have h5 := xor_eq_zero h4
  subst h5
  rw [flip, Nat.testBit_xor, Nat.testBit_two_pow, hb] at hb2
  simp at hb2
theorem code_weight {z : Nat} (hz : z < 2 ^ 64) (hc : code z) (h0 : z ≠ 0) : 4 ≤ ones z := by
  have h1 := hc.2
  have h2 : ones z ≠ 0 := fun h => h0 (ones_none hz h)
  have h3 : ones z ≠ 2 := fun h => ones_two hz h hc.1
  omega
theorem ones_flip_self {w i : Nat} (hi : i < 64) : ones (flip w i ^^^ w) = 1 := by
  rw [flip, Nat.xor_comm, ← Nat.xor_assoc, Nat.xor_self, Nat.zero_xor, ones_pow hi]
theorem ones_self_flip {w i : Nat} (hi : i < 64) : ones (w ^^^ flip w i) = 1 := by
  rw [flip, ← Nat.xor_assoc, Nat.xor_self, Nat.zero_xor, ones_pow hi]
theorem ones_two_pow : ∀ i, i < 64 → ∀ j, j < 64 → i ≠ j → ones (2 ^ i ^^^ 2 ^ j) = 2 := by
  intro i hi j hj hne
  have h1 : (2 ^ i ^^^ 2 ^ j).testBit j = true := by rw [Nat.testBit_xor, Nat.testBit_two_pow, Nat.testBit_two_pow]; simp [hne]
  have h2 := bit_ones (z := 2 ^ i ^^^ 2 ^ j) 64 hj h1
  rw [Nat.xor_assoc, Nat.xor_self, Nat.xor_zero] at h2
  have h3 := ones_pow hi
  unfold ones at *
  omega

/-! ### the lowest one -/
theorem low_and {w c m : Nat} (e : w = 2 ^ c * (2 * m + 1)) : w &&& (w - 1) = w ^^^ 2 ^ c := by
  have hp : 0 < 2 ^ c := Nat.pow_pos (by decide)
  have e1 : w = 2 ^ (c + 1) * m + 2 ^ c := by rw [e, Nat.pow_succ]; rw [Nat.mul_add, Nat.mul_one, ← Nat.mul_assoc]
  have e2 : w - 1 = 2 ^ (c + 1) * m + (2 ^ c - 1) := by omega
  have l1 : 2 ^ c < 2 ^ (c + 1) := Nat.pow_lt_pow_right (by decide) (by omega)
  apply Nat.eq_of_testBit_eq
  intro i
  rw [Nat.testBit_and, Nat.testBit_xor, e2, e1, Nat.testBit_two_pow_mul_add _ l1, Nat.testBit_two_pow_mul_add _ (by omega : 2 ^ c - 1 < 2 ^ (c + 1)), Nat.testBit_two_pow]
  by_cases h : i < c + 1
  · simp only [h, if_true, Nat.testBit_two_pow_sub_one]
    by_cases h2 : c = i
    · simp [h2]
    · have : ¬ i = c := fun h => h2 h.symm
      have : i < c := by omega
      simp [h2]
  · have : ¬ c = i := by omega
    simp [h, this]

end Go.Proofs.YtpigonlbdleaeaaDoor.Ham
