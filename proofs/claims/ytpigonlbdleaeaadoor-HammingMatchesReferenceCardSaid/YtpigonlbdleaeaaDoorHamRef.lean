/- The walks of the reference implementation of package hamming. -/
import Derived.Test.YtpigonlbdleaeaaDoorHamCorr
namespace Go.Proofs.YtpigonlbdleaeaaDoor
open Go.RowKit
namespace Ham
def powB (p : Nat) : Bool := p == 1 || p == 2 || p == 4 || p == 8 || p == 16 || p == 32
set_option maxHeartbeats 2000000 in
theorem power_calls (p : Nat) (w : World) :
    Calls Tryd.prog 32 #[.int .i64 p] w fun e w' => e = .returned (.bool (powB p)) ∧ w' = w := by
  have key : ∀ (b : Bool), ((((p : Int) == 1) = true ∧ b = true) ∨ (((p : Int) == 1) = false ∧ ((((p : Int) == 2) = true ∧ b = true) ∨ (((p : Int) == 2) = false ∧ ((((p : Int) == 4) = true ∧ b = true) ∨ (((p : Int) == 4) = false ∧
      ((((p : Int) == 8) = true ∧ b = true) ∨ (((p : Int) == 8) = false ∧ ((((p : Int) == 16) = true ∧ b = true) ∨ (((p : Int) == 16) = false ∧ b = ((p : Int) == 32)))))))))))
      → Calls Tryd.prog 32 #[.int .i64 p] w fun e w' => e = .returned (.bool b) ∧ w' = w := by
    intro b h
    rcases h with ⟨h1, rfl⟩ | ⟨h1, ⟨h2, rfl⟩ | ⟨h2, ⟨h3, rfl⟩ | ⟨h3, ⟨h4, rfl⟩ | ⟨h4, ⟨h5, rfl⟩ | ⟨h5, rfl⟩⟩⟩⟩⟩
    all_goals
      go_enter Tryd.func32, Tryd.ntmps32
      go_wp2
      go_ret
      exact ⟨by simp [*], rfl⟩
  apply key
  have c : ∀ n : Nat, ((p : Int) == ((n : Nat) : Int)) = (p == n) := fun n => by rw [Bool.eq_iff_iff]; simp; omega
  have c1 : ((p : Int) == 1) = (p == 1) := c 1
  have c2 : ((p : Int) == 2) = (p == 2) := c 2
  have c4 : ((p : Int) == 4) = (p == 4) := c 4
  have c8 : ((p : Int) == 8) = (p == 8) := c 8
  have c16 : ((p : Int) == 16) = (p == 16) := c 16
  have c32 : ((p : Int) == 32) = (p == 32) := c 32
  unfold powB
  rw [c1, c2, c4, c8, c16, c32]
  cases p == 1 <;> cases p == 2 <;> cases p == 4 <;> cases p == 8 <;> cases p == 16 <;> simp
set_option maxHeartbeats 2000000 in
theorem rbit_calls (x i : Nat) (hx : x < 18446744073709551616) (hi : i < 64) (w : World) :
    Calls Tryd.prog 22 #[.int .u64 x, .int .i64 i] w fun e w' => e = .returned (.bool (x.testBit i)) ∧ w' = w := by
  have h := bit_test x i hx
  go_enter Tryd.func22, Tryd.ntmps22
  go_wp2
  go_ret
  exact ⟨by simp [*], rfl⟩
/-- Place: how its loop goes on. -/
theorem place_step : ∀ p, p < 63 → cntp (p + 1) ≤ 57 ∧ (powB (p + 1) = true → cntp (p + 1 + 1) = cntp (p + 1)) ∧ (powB (p + 1) = false → cntp (p + 1 + 1) = cntp (p + 1) + 1) := by decide +kernel
theorem place_end : ∀ i, i < 57 → ∀ p, p < 64 → cntp (p + 1) = i + 1 → (p = 0 ∨ cntp p = i) → p = place i := by decide +kernel
theorem place_more : cntp 64 = 57 ∧ cntp 1 = 0 := by decide +kernel
set_option maxHeartbeats 4000000 in
theorem place_calls (i : Nat) (hi : i < 57) (w : World) :
    Calls Tryd.prog 23 #[.int .i64 i] w fun e w' => e = .returned (.int .i64 (place i)) ∧ w' = w := by
  go_enter Tryd.func23, Tryd.ntmps23
  go_wp2
  go_loop [3, 4] (fun n p => ∃ q : Nat, q < 64 ∧ cntp (q + 1) ≤ i + 1 ∧ (q = 0 ∨ cntp q ≤ i) ∧ n = .int .i64 ((cntp (q + 1) : Int) - 1) ∧ p = .int .i64 q) (fun _ p => 64 - (intOf p).toNat)
  case atStart => exact ⟨0, by omega, by rw [place_more.2]; omega, .inl rfl, by rw [place_more.2]; rfl, rfl⟩
  case round =>
    obtain ⟨q, hq, hle, hlast, rfl, rfl⟩ := hrel
    by_cases hlt : cntp (q + 1) ≤ i
    · have hq2 : q < 63 := by
        have : q ≠ 63 := by intro h; rw [h, place_more.1] at hlt; omega
        omega
      obtain ⟨h57, hp1, hp2⟩ := place_step q hq2
      cases hb : powB (q + 1) with
      | true =>
        have H1 := Lib.hid (hp1 hb)
        have HP : Hid (∀ w, Calls Tryd.prog 32 #[.int .i64 ((q : Int) + 1)] w fun e w' => e = .returned (.bool true) ∧ w' = w) := Lib.hid (fun w => by have := power_calls (q + 1) w; rw [hb] at this; exact this)
        clear hp1 hp2 hb hlast
        go_wp2_with (go_at_call 32; (with_reducible refine (HP.out _).mono ?_); rintro e w' ⟨rfl, rfl⟩)
        go_round
        case rel => exact ⟨q + 1, by omega, by rw [H1.out]; omega, .inr hlt, by rw [H1.out], by go_num⟩
        case measure => simp [intOf]; omega
      | false =>
        have H1 := Lib.hid (hp2 hb)
        have HP : Hid (∀ w, Calls Tryd.prog 32 #[.int .i64 ((q : Int) + 1)] w fun e w' => e = .returned (.bool false) ∧ w' = w) := Lib.hid (fun w => by have := power_calls (q + 1) w; rw [hb] at this; exact this)
        clear hp1 hp2 hb hlast
        go_wp2_with (go_at_call 32; (with_reducible refine (HP.out _).mono ?_); rintro e w' ⟨rfl, rfl⟩)
        go_round
        case rel => exact ⟨q + 1, by omega, by rw [H1.out]; omega, .inr hlt, by rw [H1.out]; go_num, by go_num⟩
        case measure => simp [intOf]; omega
    · have hend : q = place i := by
        have h1 : cntp (q + 1) = i + 1 := by omega
        refine place_end i hi q hq h1 ?_
        rcases hlast with h | h
        · exact .inl h
        · refine .inr ?_
          by_cases h0 : q = 0
          · subst h0; rw [place_more.2] at h1; omega
          · obtain ⟨r, rfl⟩ : ∃ r, q = r + 1 := ⟨q - 1, by omega⟩
            obtain ⟨_, hp1, hp2⟩ := place_step r (by omega)
            cases hb : powB (r + 1) with
            | true => have := hp1 hb; omega
            | false => have := hp2 hb; omega
      have HE := Lib.hid hend
      clear hend hlast
      go_wp2
      go_ret
      exact ⟨by rw [← HE.out]; rfl, rfl⟩
set_option maxHeartbeats 4000000 in
theorem rsyn_calls (x : Nat) (hx : x < 18446744073709551616) (w : World) :
    Calls Tryd.prog 24 #[.int .u64 x] w fun e w' => e = .returned (.int .i64 (syn x)) ∧ w' = w := by
  go_enter Tryd.func24, Tryd.ntmps24
  go_wp2
  go_loop [3, 4] (fun s p => ∃ k : Nat, k ≤ 64 ∧ s = .int .i64 (synF x k) ∧ p = .int .i64 k) (fun _ p => 64 - (intOf p).toNat)
  case atStart => exact ⟨0, by omega, rfl, rfl⟩
  case round =>
    obtain ⟨k, hk, rfl, rfl⟩ := hrel
    by_cases hlt : k < 64
    · have hs := synF_lt x k hk
      have hxk := bits_xor_i64 (synF x k) k (by omega) (by omega)
      have HS : Hid (synF x (k + 1) = synF x k ^^^ (if x.testBit k then k else 0)) := Lib.hid rfl
      cases hb : x.testBit k with
      | true =>
        have HP : Hid (∀ w, Calls Tryd.prog 22 #[.int .u64 x, .int .i64 k] w fun e w' => e = .returned (.bool true) ∧ w' = w) := Lib.hid (fun w => by have := rbit_calls x k hx hlt w; rw [hb] at this; exact this)
        have HB := Lib.hid hb
        clear hb
        go_wp2_with (go_at_call 22; (with_reducible refine (HP.out _).mono ?_); rintro e w' ⟨rfl, rfl⟩)
        go_round
        case rel => exact ⟨k + 1, by omega, by rw [HS.out, if_pos HB.out], by go_num⟩
        case measure => simp [intOf]; omega
      | false =>
        have HP : Hid (∀ w, Calls Tryd.prog 22 #[.int .u64 x, .int .i64 k] w fun e w' => e = .returned (.bool false) ∧ w' = w) := Lib.hid (fun w => by have := rbit_calls x k hx hlt w; rw [hb] at this; exact this)
        have HB := Lib.hid hb
        clear hb
        go_wp2_with (go_at_call 22; (with_reducible refine (HP.out _).mono ?_); rintro e w' ⟨rfl, rfl⟩)
        go_round
        case rel => exact ⟨k + 1, by omega, by rw [HS.out, HB.out]; simp, by go_num⟩
        case measure => simp [intOf]; omega
    · obtain rfl : k = 64 := by omega
      go_wp2
      go_ret
      exact ⟨rfl, rfl⟩
set_option maxHeartbeats 4000000 in
theorem rones_calls (x : Nat) (hx : x < 18446744073709551616) (w : World) :
    Calls Tryd.prog 25 #[.int .u64 x] w fun e w' => e = .returned (.int .i64 (ones x)) ∧ w' = w := by
  go_enter Tryd.func25, Tryd.ntmps25
  go_wp2
  go_loop [3, 4] (fun s p => ∃ k : Nat, k ≤ 64 ∧ s = .int .i64 (onesF x k) ∧ p = .int .i64 k) (fun _ p => 64 - (intOf p).toNat)
  case atStart => exact ⟨0, by omega, rfl, rfl⟩
  case round =>
    obtain ⟨k, hk, rfl, rfl⟩ := hrel
    by_cases hlt : k < 64
    · have hs := onesF_le x k
      have HS : Hid (onesF x (k + 1) = onesF x k + (if x.testBit k then 1 else 0)) := Lib.hid rfl
      cases hb : x.testBit k with
      | true =>
        have HP : Hid (∀ w, Calls Tryd.prog 22 #[.int .u64 x, .int .i64 k] w fun e w' => e = .returned (.bool true) ∧ w' = w) := Lib.hid (fun w => by have := rbit_calls x k hx hlt w; rw [hb] at this; exact this)
        have HB := Lib.hid hb
        clear hb
        go_wp2_with (go_at_call 22; (with_reducible refine (HP.out _).mono ?_); rintro e w' ⟨rfl, rfl⟩)
        go_round
        case rel => exact ⟨k + 1, by omega, by rw [HS.out, if_pos HB.out]; go_num, by go_num⟩
        case measure => simp [intOf]; omega
      | false =>
        have HP : Hid (∀ w, Calls Tryd.prog 22 #[.int .u64 x, .int .i64 k] w fun e w' => e = .returned (.bool false) ∧ w' = w) := Lib.hid (fun w => by have := rbit_calls x k hx hlt w; rw [hb] at this; exact this)
        have HB := Lib.hid hb
        clear hb
        go_wp2_with (go_at_call 22; (with_reducible refine (HP.out _).mono ?_); rintro e w' ⟨rfl, rfl⟩)
        go_round
        case rel => exact ⟨k + 1, by omega, by rw [HS.out, HB.out]; simp, by go_num⟩
        case measure => simp [intOf]; omega
    · obtain rfl : k = 64 := by omega
      go_wp2
      go_ret
      exact ⟨rfl, rfl⟩
theorem dataF_lt (x : Nat) : ∀ n, n ≤ 57 → dataF x n < 18446744073709551616
  | 0, _ => by simp [dataF]
  | n + 1, h => by
    rw [dataF]
    refine or_lt' (dataF_lt x n (by omega)) ?_
    split
    · exact pow_lt' (by omega)
    · decide
set_option maxHeartbeats 4000000 in
theorem rdata_calls (x : Nat) (hx : x < 18446744073709551616) (w : World) :
    Calls Tryd.prog 29 #[.int .u64 x] w fun e w' => e = .returned (.int .u64 (data x)) ∧ w' = w := by
  go_enter Tryd.func29, Tryd.ntmps29
  go_wp2
  go_loop [3, 4] (fun s p => ∃ k : Nat, k ≤ 57 ∧ s = .int .u64 (dataF x k) ∧ p = .int .i64 k) (fun _ p => 64 - (intOf p).toNat)
  case atStart => exact ⟨0, by omega, rfl, rfl⟩
  case round =>
    obtain ⟨k, hk, rfl, rfl⟩ := hrel
    by_cases hlt : k < 57
    · have hs := dataF_lt x k hk
      have hpw := pow_wrap (show k < 64 by omega)
      have hxk := bits_or_u64_nat (dataF x k) (2 ^ k) hs (pow_lt' (by omega))
      rw [show ((2 ^ k : Nat) : Int) = (2 : Int) ^ k by simp] at hpw hxk
      have hpl := place_lt k hlt
      have HS : Hid (dataF x (k + 1) = dataF x k ||| (if x.testBit (place k) then 2 ^ k else 0)) := Lib.hid rfl
      cases hb : x.testBit (place k) with
      | true =>
        have HP : Hid (∀ w, Calls Tryd.prog 22 #[.int .u64 x, .int .i64 (place k)] w fun e w' => e = .returned (.bool true) ∧ w' = w) := Lib.hid (fun w => by have := rbit_calls x (place k) hx hpl w; rw [hb] at this; exact this)
        have HB := Lib.hid hb
        clear hb
        go_wp2_with (first | (go_at_call 23; (with_reducible refine (place_calls k hlt _).mono ?_); rintro e w' ⟨rfl, rfl⟩) | (go_at_call 22; (with_reducible refine (HP.out _).mono ?_); rintro e w' ⟨rfl, rfl⟩))
        go_round
        case rel => exact ⟨k + 1, by omega, by rw [HS.out, if_pos HB.out], by go_num⟩
        case measure => simp [intOf]; omega
      | false =>
        have HP : Hid (∀ w, Calls Tryd.prog 22 #[.int .u64 x, .int .i64 (place k)] w fun e w' => e = .returned (.bool false) ∧ w' = w) := Lib.hid (fun w => by have := rbit_calls x (place k) hx hpl w; rw [hb] at this; exact this)
        have HB := Lib.hid hb
        clear hb
        go_wp2_with (first | (go_at_call 23; (with_reducible refine (place_calls k hlt _).mono ?_); rintro e w' ⟨rfl, rfl⟩) | (go_at_call 22; (with_reducible refine (HP.out _).mono ?_); rintro e w' ⟨rfl, rfl⟩))
        go_round
        case rel => exact ⟨k + 1, by omega, by rw [HS.out, HB.out]; simp, by go_num⟩
        case measure => simp [intOf]; omega
    · obtain rfl : k = 57 := by omega
      go_wp2
      go_ret
      exact ⟨rfl, rfl⟩
set_option maxHeartbeats 2000000 in
theorem rcheck_calls (x : Nat) (hx : x < 18446744073709551616) (w : World) :
    Calls Tryd.prog 18 #[.int .u64 x] w fun e w' => e = .returned (.int .i64 (check x)) ∧ w' = w := by
  have HO := Lib.hid (fun w => rones_calls x hx w)
  have HS := Lib.hid (fun w => rsyn_calls x hx w)
  have hol := ones_le x
  have hsl := syn_lt x
  by_cases h1 : ones x % 2 = 1
  · have e1 : ((ones x : Int) % 2 == 1) = true := by simp; omega
    have HE : Hid (check x = 1) := Lib.hid (by rw [check, if_pos h1])
    clear h1
    go_enter Tryd.func18, Tryd.ntmps18
    go_wp2_with (go_at_call 25; (with_reducible refine (HO.out _).mono ?_); rintro e w' ⟨rfl, rfl⟩)
    go_ret
    exact ⟨by rw [HE.out]; rfl, rfl⟩
  · have e1 : ((ones x : Int) % 2 == 1) = false := by simp; omega
    by_cases h2 : syn x = 0
    · have e2 : ((syn x : Int) != 0) = false := by simp [h2]
      have HE : Hid (check x = 0) := Lib.hid (by rw [check, if_neg h1, if_neg (by simp [h2])])
      clear h1 h2
      go_enter Tryd.func18, Tryd.ntmps18
      go_wp2_with (first | (go_at_call 25; (with_reducible refine (HO.out _).mono ?_); rintro e w' ⟨rfl, rfl⟩) | (go_at_call 24; (with_reducible refine (HS.out _).mono ?_); rintro e w' ⟨rfl, rfl⟩))
      go_ret
      exact ⟨by rw [HE.out]; rfl, rfl⟩
    · have e2 : ((syn x : Int) != 0) = true := by simp [h2]
      have HE : Hid (check x = 2) := Lib.hid (by rw [check, if_neg h1, if_pos h2])
      clear h1 h2
      go_enter Tryd.func18, Tryd.ntmps18
      go_wp2_with (first | (go_at_call 25; (with_reducible refine (HO.out _).mono ?_); rintro e w' ⟨rfl, rfl⟩) | (go_at_call 24; (with_reducible refine (HS.out _).mono ?_); rintro e w' ⟨rfl, rfl⟩))
      go_ret
      exact ⟨by rw [HE.out]; rfl, rfl⟩
set_option maxHeartbeats 1000000 in
theorem rflip_in (x i : Nat) (hx : x < 18446744073709551616) (hi : i < 64) (w : World) :
    Calls Tryd.prog 14 #[.int .u64 x, .int .i64 i] w fun e w' => e = .returned (.int .u64 (flip x i)) ∧ w' = w := by
  have hpw := pow_wrap hi
  have hxk := bits_xor_u64_nat x (2 ^ i) hx (pow_lt' hi)
  rw [show ((2 ^ i : Nat) : Int) = (2 : Int) ^ i by simp] at hpw hxk
  go_enter Tryd.func14, Tryd.ntmps14
  go_wp2
  go_ret
  exact ⟨rfl, rfl⟩
set_option maxHeartbeats 1000000 in
theorem rflip_out (x : Nat) (i : Int) (hi : i < 0 ∨ 63 < i) (w : World) :
    Calls Tryd.prog 14 #[.int .u64 x, .int .i64 i] w fun e w' => e = .returned (.int .u64 x) ∧ w' = w := by
  rcases hi with hi | hi
  · have h1 : decide (i < 0) = true := decide_eq_true hi
    go_enter Tryd.func14, Tryd.ntmps14
    go_wp2
    go_ret
    exact ⟨rfl, rfl⟩
  · have h1 : decide (i < 0) = false := decide_eq_false (by omega)
    have h2 : decide (63 < i) = true := decide_eq_true hi
    go_enter Tryd.func14, Tryd.ntmps14
    go_wp2
    go_ret
    exact ⟨rfl, rfl⟩
set_option maxHeartbeats 1000000 in
theorem rdist_calls (x y : Nat) (hx : x < 18446744073709551616) (hy : y < 18446744073709551616) (w : World) :
    Calls Tryd.prog 16 #[.int .u64 x, .int .u64 y] w fun e w' => e = .returned (.int .i64 (ones (x ^^^ y))) ∧ w' = w := by
  have hxy := bits_xor_u64_nat x y hx hy
  have HO := Lib.hid (fun w => rones_calls (x ^^^ y) (xor_lt' hx hy) w)
  go_enter Tryd.func16, Tryd.ntmps16
  go_wp2_with (go_at_call 25; (with_reducible refine (HO.out _).mono ?_); rintro e w' ⟨rfl, rfl⟩)
  go_ret
  exact ⟨rfl, rfl⟩
end Ham
end Go.Proofs.YtpigonlbdleaeaaDoor
