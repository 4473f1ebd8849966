/- Plain facts: the parallel count of the ones of a number of 64 bits, as Go's library reckons it, is their number. No program is named here. -/
import Derived.Test.YtpigonlbdleaeaaDoorHamTheory
namespace Go.Proofs.YtpigonlbdleaeaaDoor.Ham

theorem onesF_low (x : Nat) : ∀ n, onesF x (n + 1) = x % 2 + onesF (x / 2) n
  | 0 => by
    simp only [onesF, Nat.testBit_zero]
    by_cases h : x % 2 = 1
    · simp [h]
    · have : x % 2 = 0 := by omega
      simp [this]
  | n + 1 => by
    rw [onesF, onesF_low x n, onesF, Nat.testBit_succ]
    omega
theorem onesF_byte (b x n : Nat) (hb : b < 256) : onesF (b + 256 * x) (n + 8) = onesF b 8 + onesF x n := by
  have e : ∀ y m, onesF y (m + 8) = y % 2 + (y / 2 % 2 + (y / 4 % 2 + (y / 8 % 2 + (y / 16 % 2 + (y / 32 % 2 + (y / 64 % 2 + (y / 128 % 2 + onesF (y / 256) m))))))) := by
    intro y m
    rw [show m + 8 = m + 7 + 1 from rfl, onesF_low, show m + 7 = m + 6 + 1 from rfl, onesF_low, show m + 6 = m + 5 + 1 from rfl, onesF_low, show m + 5 = m + 4 + 1 from rfl, onesF_low,
      show m + 4 = m + 3 + 1 from rfl, onesF_low, show m + 3 = m + 2 + 1 from rfl, onesF_low, show m + 2 = m + 1 + 1 from rfl, onesF_low, onesF_low]
    simp only [Nat.div_div_eq_div_mul]
  have e8 := e b 0
  rw [e, show (8 : Nat) = 0 + 8 from rfl, e8]
  have h1 : (b + 256 * x) / 256 = x := by omega
  have h2 : b / 256 = 0 := by omega
  rw [h1, h2]
  simp only [onesF]
  have q1 : (b + 256 * x) % 2 = b % 2 := by omega
  have q2 : (b + 256 * x) / 2 % 2 = b / 2 % 2 := by omega
  have q3 : (b + 256 * x) / 4 % 2 = b / 4 % 2 := by omega
  have q4 : (b + 256 * x) / 8 % 2 = b / 8 % 2 := by omega
  have q5 : (b + 256 * x) / 16 % 2 = b / 16 % 2 := by omega
  have q6 : (b + 256 * x) / 32 % 2 = b / 32 % 2 := by omega
  have q7 : (b + 256 * x) / 64 % 2 = b / 64 % 2 := by omega
  have q8 : (b + 256 * x) / 128 % 2 = b / 128 % 2 := by omega
  rw [q1, q2, q3, q4, q5, q6, q7, q8]
  omega

theorem and_split (a p c q : Nat) (ha : a < 256) (hc : c < 256) : (a + 256 * p) &&& (c + 256 * q) = (a &&& c) + 256 * (p &&& q) := by
  have h1 : ((a + 256 * p) &&& (c + 256 * q)) % 256 = a &&& c := by
    rw [show (256 : Nat) = 2 ^ 8 from rfl, Nat.and_mod_two_pow]
    have : (a + 2 ^ 8 * p) % 2 ^ 8 = a := by omega
    have : (c + 2 ^ 8 * q) % 2 ^ 8 = c := by omega
    simp [*]
  have h2 : ((a + 256 * p) &&& (c + 256 * q)) / 256 = p &&& q := by
    rw [show (256 : Nat) = 2 ^ 8 from rfl, Nat.and_div_two_pow]
    have : (a + 2 ^ 8 * p) / 2 ^ 8 = p := by omega
    have : (c + 2 ^ 8 * q) / 2 ^ 8 = q := by omega
    simp [*]
  omega

def mk (c : Nat) : Nat → Nat
  | 0 => 0
  | n + 1 => c + 256 * mk c n
def s1 (n x : Nat) : Nat := (x / 2 &&& mk 85 n) + (x &&& mk 85 n)
def s2 (n x : Nat) : Nat := (x / 4 &&& mk 51 n) + (x &&& mk 51 n)
def s3 (n x : Nat) : Nat := (x / 16 + x) &&& mk 15 n
def b1 (b : Nat) : Nat := (b / 2 &&& 85) + (b &&& 85)
def b2 (b : Nat) : Nat := (b / 4 &&& 51) + (b &&& 51)
theorem t1 : ∀ b, b < 256 → ∀ t, t < 2 → (b / 2 + 128 * t) &&& 85 = b / 2 &&& 85 := by decide +kernel
theorem t2 : ∀ b, b < 256 → ∀ t, t < 4 → (b / 4 + 64 * t) &&& 51 = b / 4 &&& 51 := by decide +kernel
theorem t3 : ∀ b, b < 256 → b1 b < 256 ∧ b2 (b1 b) < 256 ∧ b2 (b1 b) % 16 ≤ 4 ∧ b2 (b1 b) ≤ 68 ∧ ∀ t, t < 5 → (b2 (b1 b) / 16 + b2 (b1 b) + 16 * t) &&& 15 = onesF b 8 := by decide +kernel
theorem t4 : ∀ b, b < 256 → onesF b 8 ≤ 8 := by decide +kernel
theorem s1_step (n b x : Nat) (hb : b < 256) : s1 (n + 1) (b + 256 * x) = b1 b + 256 * s1 n x := by
  simp only [s1, b1, show mk 85 (n + 1) = 85 + 256 * mk 85 n from rfl]
  have e : (b + 256 * x) / 2 = (b / 2 + 128 * (x % 2)) + 256 * (x / 2) := by omega
  rw [e, and_split _ _ _ _ (by omega) (by decide), and_split _ _ _ _ hb (by decide), t1 b hb _ (by omega)]
  rw [Nat.mul_add]; omega
theorem s2_step (n b x : Nat) (hb : b < 256) : s2 (n + 1) (b + 256 * x) = b2 b + 256 * s2 n x := by
  simp only [s2, b2, show mk 51 (n + 1) = 51 + 256 * mk 51 n from rfl]
  have e : (b + 256 * x) / 4 = (b / 4 + 64 * (x % 4)) + 256 * (x / 4) := by omega
  rw [e, and_split _ _ _ _ (by omega) (by decide), and_split _ _ _ _ hb (by decide), t2 b hb _ (by omega)]
  rw [Nat.mul_add]; omega
/-- The bytes' counts, side by side. -/
def cnt : Nat → Nat → Nat
  | 0, _ => 0
  | n + 1, x => onesF (x % 256) 8 + 256 * cnt n (x / 256)
theorem low4 : ∀ (n x : Nat), s2 n (s1 n x) % 16 ≤ 4
  | 0, x => by simp [s2, s1, mk]
  | n + 1, x => by
    obtain ⟨b, y, hb, rfl⟩ : ∃ b y, b < 256 ∧ x = b + 256 * y := ⟨x % 256, x / 256, by omega, by omega⟩
    obtain ⟨h1, h2, h3, _⟩ := t3 b hb
    rw [s1_step n b y hb, s2_step n _ _ h1]
    omega
theorem s3_all : ∀ (n x : Nat), s3 n (s2 n (s1 n x)) = cnt n x
  | 0, x => by simp [s3, cnt, mk]
  | n + 1, x => by
    obtain ⟨b, y, hb, rfl⟩ : ∃ b y, b < 256 ∧ x = b + 256 * y := ⟨x % 256, x / 256, by omega, by omega⟩
    obtain ⟨h1, h2, h3, h4, h5⟩ := t3 b hb
    rw [s1_step n b y hb, s2_step n _ _ h1, cnt]
    have hl := low4 n y
    have ih := s3_all n y
    generalize s2 n (s1 n y) = z at hl ih ⊢
    generalize b2 (b1 b) = c at h2 h3 h4 h5 ⊢
    unfold s3 at ih ⊢
    rw [mk]
    have e : (c + 256 * z) / 16 + (c + 256 * z) = (c / 16 + c + 16 * (z % 16)) + 256 * (z / 16 + z) := by omega
    rw [e, and_split _ _ _ _ (by omega) (by decide), h5 _ (by omega), ih]
    have q1 : (b + 256 * y) % 256 = b := by omega
    have q2 : (b + 256 * y) / 256 = y := by omega
    rw [q1, q2]
theorem arith (n0 n1 n2 n3 n4 n5 n6 n7 : Nat) (k0 : n0 ≤ 8) (k1 : n1 ≤ 8) (k2 : n2 ≤ 8) (k3 : n3 ≤ 8) (k4 : n4 ≤ 8) (k5 : n5 ≤ 8) (k6 : n6 ≤ 8) (k7 : n7 ≤ 8) :
    n0 + 256 * (n1 + 256 * (n2 + 256 * (n3 + 256 * (n4 + 256 * (n5 + 256 * (n6 + 256 * n7)))))) < 1152921504606846976 ∧
    (n0 + 256 * (n1 + 256 * (n2 + 256 * (n3 + 256 * (n4 + 256 * (n5 + 256 * (n6 + 256 * n7)))))) + (n0 + 256 * (n1 + 256 * (n2 + 256 * (n3 + 256 * (n4 + 256 * (n5 + 256 * (n6 + 256 * n7))))))) / 256 +
      (n0 + 256 * (n1 + 256 * (n2 + 256 * (n3 + 256 * (n4 + 256 * (n5 + 256 * (n6 + 256 * n7)))))) + (n0 + 256 * (n1 + 256 * (n2 + 256 * (n3 + 256 * (n4 + 256 * (n5 + 256 * (n6 + 256 * n7))))))) / 256) / 65536 +
      (n0 + 256 * (n1 + 256 * (n2 + 256 * (n3 + 256 * (n4 + 256 * (n5 + 256 * (n6 + 256 * n7)))))) + (n0 + 256 * (n1 + 256 * (n2 + 256 * (n3 + 256 * (n4 + 256 * (n5 + 256 * (n6 + 256 * n7))))))) / 256 +
        (n0 + 256 * (n1 + 256 * (n2 + 256 * (n3 + 256 * (n4 + 256 * (n5 + 256 * (n6 + 256 * n7)))))) + (n0 + 256 * (n1 + 256 * (n2 + 256 * (n3 + 256 * (n4 + 256 * (n5 + 256 * (n6 + 256 * n7))))))) / 256) / 65536) / 4294967296) % 128 =
      n0 + (n1 + (n2 + (n3 + (n4 + (n5 + (n6 + n7)))))) := by
  refine ⟨by omega, ?_⟩
  have q1 : (n0 + 256 * (n1 + 256 * (n2 + 256 * (n3 + 256 * (n4 + 256 * (n5 + 256 * (n6 + 256 * n7))))))) / 256 = n1 + 256 * (n2 + 256 * (n3 + 256 * (n4 + 256 * (n5 + 256 * (n6 + 256 * n7))))) := by omega
  rw [q1]
  have q2 : (n0 + 256 * (n1 + 256 * (n2 + 256 * (n3 + 256 * (n4 + 256 * (n5 + 256 * (n6 + 256 * n7)))))) + (n1 + 256 * (n2 + 256 * (n3 + 256 * (n4 + 256 * (n5 + 256 * (n6 + 256 * n7))))))) / 65536 =
      (n2 + n3) + 256 * ((n3 + n4) + 256 * ((n4 + n5) + 256 * ((n5 + n6) + 256 * ((n6 + n7) + 256 * n7)))) := by omega
  rw [q2]
  have q3 : (n0 + 256 * (n1 + 256 * (n2 + 256 * (n3 + 256 * (n4 + 256 * (n5 + 256 * (n6 + 256 * n7)))))) + (n1 + 256 * (n2 + 256 * (n3 + 256 * (n4 + 256 * (n5 + 256 * (n6 + 256 * n7)))))) +
      ((n2 + n3) + 256 * ((n3 + n4) + 256 * ((n4 + n5) + 256 * ((n5 + n6) + 256 * ((n6 + n7) + 256 * n7)))))) / 4294967296 = (n4 + n5 + n6 + n7) + 256 * ((n5 + n6 + n7) + 256 * ((n6 + n7) + 256 * n7)) := by omega
  rw [q3]
  clear q1 q2 q3
  omega
theorem fold_cnt (x : Nat) (hx : x < 18446744073709551616) : ∃ z, s3 8 (s2 8 (s1 8 x)) = z ∧ z < 1152921504606846976 ∧
    (z + z / 256 + (z + z / 256) / 65536 + (z + z / 256 + (z + z / 256) / 65536) / 4294967296) % 128 = ones x := by
  refine ⟨_, rfl, ?_⟩
  rw [s3_all]
  obtain ⟨b0, y0, h0, rfl⟩ : ∃ b y, b < 256 ∧ x = b + 256 * y := ⟨x % 256, x / 256, by omega, by omega⟩
  obtain ⟨c1, y1, h1, rfl⟩ : ∃ b y, b < 256 ∧ y0 = b + 256 * y := ⟨y0 % 256, y0 / 256, by omega, by omega⟩
  obtain ⟨c2, y2, h2, rfl⟩ : ∃ b y, b < 256 ∧ y1 = b + 256 * y := ⟨y1 % 256, y1 / 256, by omega, by omega⟩
  obtain ⟨c3, y3, h3, rfl⟩ : ∃ b y, b < 256 ∧ y2 = b + 256 * y := ⟨y2 % 256, y2 / 256, by omega, by omega⟩
  obtain ⟨c4, y4, h4, rfl⟩ : ∃ b y, b < 256 ∧ y3 = b + 256 * y := ⟨y3 % 256, y3 / 256, by omega, by omega⟩
  obtain ⟨c5, y5, h5, rfl⟩ : ∃ b y, b < 256 ∧ y4 = b + 256 * y := ⟨y4 % 256, y4 / 256, by omega, by omega⟩
  obtain ⟨c6, y6, h6, rfl⟩ : ∃ b y, b < 256 ∧ y5 = b + 256 * y := ⟨y5 % 256, y5 / 256, by omega, by omega⟩
  have h7 : y6 < 256 := by omega
  have hn : ones (b0 + 256 * (c1 + 256 * (c2 + 256 * (c3 + 256 * (c4 + 256 * (c5 + 256 * (c6 + 256 * y6))))))) =
      onesF b0 8 + (onesF c1 8 + (onesF c2 8 + (onesF c3 8 + (onesF c4 8 + (onesF c5 8 + (onesF c6 8 + onesF y6 8)))))) := by
    rw [ones, show (64 : Nat) = 56 + 8 from rfl, onesF_byte _ _ _ h0, show (56 : Nat) = 48 + 8 from rfl, onesF_byte _ _ _ h1, show (48 : Nat) = 40 + 8 from rfl, onesF_byte _ _ _ h2,
      show (40 : Nat) = 32 + 8 from rfl, onesF_byte _ _ _ h3, show (32 : Nat) = 24 + 8 from rfl, onesF_byte _ _ _ h4, show (24 : Nat) = 16 + 8 from rfl, onesF_byte _ _ _ h5,
      show (16 : Nat) = 8 + 8 from rfl, onesF_byte _ _ _ h6]
  have ec : ∀ n b y, b < 256 → cnt (n + 1) (b + 256 * y) = onesF b 8 + 256 * cnt n y := by
    intro n b y hb
    have q1 : (b + 256 * y) % 256 = b := by omega
    have q2 : (b + 256 * y) / 256 = y := by omega
    rw [cnt, q1, q2]
  have e6 : cnt 1 y6 = onesF y6 8 := by
    have := ec 0 y6 0 h7
    simp only [Nat.mul_zero, Nat.add_zero, cnt] at this
    simpa [cnt] using this
  rw [hn, ec 7 _ _ h0, ec 6 _ _ h1, ec 5 _ _ h2, ec 4 _ _ h3, ec 3 _ _ h4, ec 2 _ _ h5, ec 1 _ _ h6, e6]
  have k0 := t4 b0 h0
  have k1 := t4 c1 h1
  have k2 := t4 c2 h2
  have k3 := t4 c3 h3
  have k4 := t4 c4 h4
  have k5 := t4 c5 h5
  have k6 := t4 c6 h6
  have k7 := t4 y6 h7
  generalize onesF b0 8 = n0 at k0 ⊢
  generalize onesF c1 8 = n1 at k1 ⊢
  generalize onesF c2 8 = n2 at k2 ⊢
  generalize onesF c3 8 = n3 at k3 ⊢
  generalize onesF c4 8 = n4 at k4 ⊢
  generalize onesF c5 8 = n5 at k5 ⊢
  generalize onesF c6 8 = n6 at k6 ⊢
  generalize onesF y6 8 = n7 at k7 ⊢
  clear hx hn ec e6 h0 h1 h2 h3 h4 h5 h6 h7
  exact arith n0 n1 n2 n3 n4 n5 n6 n7 k0 k1 k2 k3 k4 k5 k6 k7
end Go.Proofs.YtpigonlbdleaeaaDoor.Ham
