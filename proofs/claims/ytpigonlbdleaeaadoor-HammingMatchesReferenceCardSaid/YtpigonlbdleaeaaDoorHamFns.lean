/- The walks of hamming.Flip, Distance, syndrome, Check, and the law's cut. -/
import Derived.Test.YtpigonlbdleaeaaDoorHamWalk
namespace Go.Proofs.YtpigonlbdleaeaaDoor
open Go.RowKit
namespace Ham
theorem bits_xor_i64 (a b : Nat) (ha : a < 9223372036854775808) (hb : b < 9223372036854775808) : bits .xor .i64 (a : Int) (b : Int) = ((a ^^^ b : Nat) : Int) := by
  have ha' : a % 18446744073709551616 = a := Nat.mod_eq_of_lt (by omega)
  have hb' : b % 18446744073709551616 = b := Nat.mod_eq_of_lt (by omega)
  have h : a ^^^ b < 2 ^ 63 := Nat.xor_lt_two_pow ha hb
  simp only [bits, BitVec.ofInt_natCast, BitVec.toNat_xor, BitVec.toNat_ofNat, show (2 : Nat) ^ IntKind.i64.bits = 18446744073709551616 from rfl, ha', hb']
  rw [IntKind.wrap_i64]
  omega
theorem bits_and_i64 (a b : Nat) (ha : a < 9223372036854775808) (hb : b < 9223372036854775808) : bits .and .i64 (a : Int) (b : Int) = ((a &&& b : Nat) : Int) := by
  have ha' : a % 18446744073709551616 = a := Nat.mod_eq_of_lt (by omega)
  have hb' : b % 18446744073709551616 = b := Nat.mod_eq_of_lt (by omega)
  have h : a &&& b ≤ b := Nat.and_le_right
  simp only [bits, BitVec.ofInt_natCast, BitVec.toNat_and, BitVec.toNat_ofNat, show (2 : Nat) ^ IntKind.i64.bits = 18446744073709551616 from rfl, ha', hb']
  rw [IntKind.wrap_i64]
  omega
theorem ctz_low {v : Nat} (h0 : v ≠ 0) (hv : v < 18446744073709551616) : v &&& (v - 1) = v ^^^ 2 ^ Lib.ctz 64 v ∧ Lib.ctz 64 v < 64 ∧ v &&& (v - 1) < v := by
  obtain ⟨m, hm, hk⟩ := Lib.ctzFrom_spec 64 v (by omega) hv
  have e : Lib.ctz 64 v = Lib.ctzFrom 64 v := by simp [Lib.ctz, h0]
  rw [e]
  refine ⟨low_and hm, hk, ?_⟩
  have : v &&& (v - 1) ≤ v - 1 := Nat.and_le_right
  omega
theorem syn_step {v : Nat} (h0 : v ≠ 0) (hv : v < 18446744073709551616) : Lib.ctz 64 v ^^^ syn (v &&& (v - 1)) = syn v := by
  obtain ⟨e, hk, _⟩ := ctz_low h0 hv
  rw [e, syn_xor, syn_pow hk, Nat.xor_comm (syn v), ← Nat.xor_assoc, Nat.xor_self, Nat.zero_xor]
theorem ret_u64 {a b : Int} (h : a = b) : Ending.returned (.int .u64 a) = .returned (.int .u64 b) := by rw [h]
abbrev W64 : Nat := 18446744073709551616
theorem xor_lt' {a b : Nat} (ha : a < 18446744073709551616) (hb : b < 18446744073709551616) : a ^^^ b < 18446744073709551616 := xor_lt64 ha hb
theorem pow_lt' {i : Nat} (h : i < 64) : 2 ^ i < 18446744073709551616 := pow_lt64 h
theorem flip_lt' {w i : Nat} (hw : w < 18446744073709551616) (hi : i < 64) : flip w i < 18446744073709551616 := flip_lt hw hi
set_option maxHeartbeats 1000000 in
theorem flip_in (x i : Nat) (hx : x < 18446744073709551616) (hi : i < 64) (w : World) :
    Calls Tryd.prog 13 #[.int .u64 x, .int .i64 i] w fun e w' => e = .returned (.int .u64 (flip x i)) ∧ w' = w := by
  go_enter Tryd.func13, Tryd.ntmps13
  go_wp2
  go_ret
  refine ⟨ret_u64 ?_, rfl⟩
  have e : IntKind.u64.wrap (2 ^ i) = ((2 ^ i : Nat) : Int) := by
    obtain ⟨p, hp⟩ : ∃ p : Nat, p = 2 ^ i := ⟨_, rfl⟩
    have h := pow_lt' hi
    have e0 : ((2 : Int) ^ i) = ((2 ^ i : Nat) : Int) := by simp
    rw [e0]
    rw [← hp] at h ⊢
    exact w64 _ (by omega) (by omega)
  rw [e, bits_xor_u64_nat _ _ hx (pow_lt' hi)]
  rfl
set_option maxHeartbeats 1000000 in
theorem flip_out (x : Nat) (i : Int) (hi : i < 0 ∨ 63 < i) (w : World) :
    Calls Tryd.prog 13 #[.int .u64 x, .int .i64 i] w fun e w' => e = .returned (.int .u64 x) ∧ w' = w := by
  rcases hi with hi | hi
  · have h1 : decide (i < 0) = true := decide_eq_true hi
    go_enter Tryd.func13, Tryd.ntmps13
    go_wp2
    go_ret
    exact ⟨rfl, rfl⟩
  · have h1 : decide (i < 0) = false := decide_eq_false (by omega)
    have h2 : decide (63 < i) = true := decide_eq_true hi
    go_enter Tryd.func13, Tryd.ntmps13
    go_wp2
    go_ret
    exact ⟨rfl, rfl⟩
set_option maxHeartbeats 1000000 in
theorem distance_calls (x y : Nat) (hx : x < 18446744073709551616) (hy : y < 18446744073709551616) (w : World) :
    Calls Tryd.prog 15 #[.int .u64 x, .int .u64 y] w fun e w' => e = .returned (.int .i64 (ones (x ^^^ y))) ∧ w' = w := by
  have hxy := bits_xor_u64_nat x y hx hy
  go_enter Tryd.func15, Tryd.ntmps15
  go_wp2_with (go_at_call 26; refine (ones_calls _ (xor_lt' hx hy) _).mono ?_; rintro e w' ⟨rfl, rfl⟩)
  go_ret
  exact ⟨rfl, rfl⟩
set_option maxHeartbeats 1000000 in
theorem cut_calls (x : Nat) (hx : x < 18446744073709551616) (w : World) :
    Calls Tryd.prog 12 #[.int .u64 x] w fun e w' => e = .returned (.int .u64 ((x % 144115188075855872 : Nat) : Int)) ∧ w' = w := by
  go_enter Tryd.func12, Tryd.ntmps12
  go_wp2
  go_ret
  refine ⟨?_, rfl⟩
  rw [show (144115188075855871 : Int) = ((144115188075855871 : Nat) : Int) by rfl, bits_and_u64_nat _ _ hx (by omega), show (144115188075855871 : Nat) = 2 ^ 57 - 1 by rfl, Nat.and_two_pow_sub_one_eq_mod]
  rfl
set_option maxHeartbeats 1000000 in
theorem syndrome_calls (x : Nat) (hx : x < 18446744073709551616) (w : World) (hT : GTab w) :
    Calls Tryd.prog 27 #[.int .u64 x] w fun e w' => e = .returned (.int .i64 (syn x)) ∧ w' = w := by
  go_enter Tryd.func27, Tryd.ntmps27
  go_wp2
  go_loop [0, 3] (fun a s => ∃ v t : Nat, v < 18446744073709551616 ∧ t < 64 ∧ t ^^^ syn v = syn x ∧ a = .int .u64 v ∧ s = .int .i64 t) (fun a _ => (intOf a).toNat)
  case atStart => exact ⟨x, 0, hx, by omega, by simp, rfl, rfl⟩
  case round =>
    obtain ⟨v, t, hv, ht, hs, rfl, rfl⟩ := hrel
    have HS := Lib.hid hs
    clear hs
    by_cases h0 : v = 0
    · have h1 : ((v : Int) != 0) = false := by simp [h0]
      go_wp2
      go_ret
      refine ⟨ret_int ?_, rfl⟩
      have := HS.out
      rw [h0, syn_zero, Nat.xor_zero] at this
      rw [this]
    · have h1 : ((v : Int) != 0) = true := by simp [h0]
      go_wp2_with (go_at_call 33; refine (tz_calls _ (by assumption) _ hT).mono ?_; rintro e w' ⟨rfl, rfl⟩)
      go_round
      case rel =>
        obtain ⟨e, hk, hlt⟩ := ctz_low h0 hv
        refine ⟨v &&& (v - 1), t ^^^ Lib.ctz 64 v, by omega, Nat.xor_lt_two_pow (n := 6) ht hk, ?_, ?_, ?_⟩
        · rw [Nat.xor_assoc, syn_step h0 hv]; exact HS.out
        · rw [show (v : Int) - 1 = ((v - 1 : Nat) : Int) by omega, bits_and_u64_nat _ _ hv (by omega)]
        · rw [bits_xor_i64 _ _ (by omega) (by omega)]
      case measure =>
        obtain ⟨e, hk, hlt⟩ := ctz_low h0 hv
        rw [show (v : Int) - 1 = ((v - 1 : Nat) : Int) by omega, bits_and_u64_nat _ _ hv (by omega)]
        simp [intOf]
        omega
set_option maxHeartbeats 1000000 in
theorem check_calls (x : Nat) (hx : x < 18446744073709551616) (w : World) (hT : GTab w) :
    Calls Tryd.prog 17 #[.int .u64 x] w fun e w' => e = .returned (.int .i64 (check x)) ∧ w' = w := by
  have ho := ones_le x
  have hs := syn_lt x
  unfold check
  by_cases h1 : ones x % 2 = 1
  · rw [if_pos h1]
    have b1 : ((ones x : Int) % 2 == 1) = true := by simp; omega
    go_enter Tryd.func17, Tryd.ntmps17
    go_wp2_with (go_at_call 26; refine (ones_calls _ hx _).mono ?_; rintro e w' ⟨rfl, rfl⟩)
    go_ret
    exact ⟨rfl, rfl⟩
  · rw [if_neg h1]
    have b1 : ((ones x : Int) % 2 == 1) = false := by simp; omega
    by_cases h2 : syn x = 0
    · rw [if_neg (by simpa using h2)]
      have b2 : ((syn x : Int) != 0) = false := by simp [h2]
      clear h2 h1
      go_enter Tryd.func17, Tryd.ntmps17
      go_wp2_with (first | (go_at_call 26; refine (ones_calls _ hx _).mono ?_; rintro e w' ⟨rfl, rfl⟩) | (go_at_call 27; refine (syndrome_calls _ hx _ hT).mono ?_; rintro e w' ⟨rfl, rfl⟩))
      go_ret
      exact ⟨rfl, rfl⟩
    · rw [if_pos h2]
      have b2 : ((syn x : Int) != 0) = true := by simp [h2]
      clear h2 h1
      go_enter Tryd.func17, Tryd.ntmps17
      go_wp2_with (first | (go_at_call 26; refine (ones_calls _ hx _).mono ?_; rintro e w' ⟨rfl, rfl⟩) | (go_at_call 27; refine (syndrome_calls _ hx _ hT).mono ?_; rintro e w' ⟨rfl, rfl⟩))
      go_ret
      exact ⟨rfl, rfl⟩
end Ham
end Go.Proofs.YtpigonlbdleaeaaDoor
