/- The walks of the reference implementation of package hamming: encoding and decoding. -/
import Derived.Test.YtpigonlbdleaeaaDoorHamRef
namespace Go.Proofs.YtpigonlbdleaeaaDoor
open Go.RowKit
namespace Ham
theorem rpar_test (s k : Nat) (hs : s < 64) : (bits .and .i64 ((s : Int) / 2 ^ k) 1 == 1) = s.testBit k := by
  rw [show ((s : Int) / 2 ^ k) = ((s / 2 ^ k : Nat) : Int) by simp, show (1 : Int) = ((1 : Nat) : Int) from rfl, bits_and_i64 _ _ (Nat.lt_of_le_of_lt (Nat.div_le_self _ _) (by omega)) (by decide), Nat.testBit_eq_decide_div_mod_eq]
  rw [Nat.and_one_is_mod, Bool.eq_iff_iff]
  simp only [beq_iff_eq, decide_eq_true_eq]
  omega
theorem spF_lt' (d : Nat) : ∀ n, n ≤ 57 → spF d n < 18446744073709551616
  | 0, _ => by simp [spF]
  | n + 1, h => by
    rw [spF]
    refine or_lt' (spF_lt' d n (by omega)) ?_
    split
    · exact pow_lt' (place_lt n (by omega))
    · decide
set_option maxHeartbeats 4000000 in
theorem rencode_small (d : Nat) (hd : d < 144115188075855872) (w : World) :
    Calls Tryd.prog 11 #[.int .u64 d] w fun e w' => e = .returned (.agg #[.int .u64 (enc d), .int .i64 0]) ∧ Below w.heap.size w w' := by
  have hdx : d < 18446744073709551616 := by omega
  have t0 : ((d : Int) / 144115188075855872 != 0) = false := by simp; omega
  have Hd := Lib.hid hd
  have HSY := Lib.hid (fun w => rsyn_calls (sp d) (spF_lt' d 57 (by omega)) w)
  have HON := Lib.hid (fun w => rones_calls (enc0 d) (enc0_lt d) w)
  clear hd
  go_enter Tryd.func11, Tryd.ntmps11
  go_wp2
  go_loop [3, 4] (fun v i => ∃ k : Nat, k ≤ 57 ∧ v = .int .u64 (spF d k) ∧ i = .int .i64 k) (fun _ i => 57 - (intOf i).toNat)
  case atStart => exact ⟨0, by omega, rfl, rfl⟩
  case round =>
    obtain ⟨k, hk, rfl, rfl⟩ := hrel
    by_cases hlt : k < 57
    · have hs := spF_lt' d k hk
      have hpl := place_lt k hlt
      have hpw := pow_wrap hpl
      have hxk := bits_or_u64_nat (spF d k) (2 ^ place k) hs (pow_lt' hpl)
      rw [show ((2 ^ place k : Nat) : Int) = (2 : Int) ^ place k by simp] at hpw hxk
      have HS : Hid (spF d (k + 1) = spF d k ||| (if d.testBit k then 2 ^ place k else 0)) := Lib.hid rfl
      cases hb : d.testBit k with
      | true =>
        have HP : Hid (∀ w, Calls Tryd.prog 22 #[.int .u64 d, .int .i64 k] w fun e w' => e = .returned (.bool true) ∧ w' = w) := Lib.hid (fun w => by have := rbit_calls d k hdx (by omega) w; rw [hb] at this; exact this)
        have HB := Lib.hid hb
        clear hb
        go_wp2_with (first | (go_at_call 23; (with_reducible refine (place_calls k hlt _).mono ?_); rintro e w' ⟨rfl, rfl⟩) | (go_at_call 22; (with_reducible refine (HP.out _).mono ?_); rintro e w' ⟨rfl, rfl⟩))
        go_round
        case rel => exact ⟨k + 1, by omega, by rw [HS.out, if_pos HB.out], by go_num⟩
        case measure => simp [intOf]; omega
      | false =>
        have HP : Hid (∀ w, Calls Tryd.prog 22 #[.int .u64 d, .int .i64 k] w fun e w' => e = .returned (.bool false) ∧ w' = w) := Lib.hid (fun w => by have := rbit_calls d k hdx (by omega) w; rw [hb] at this; exact this)
        have HB := Lib.hid hb
        clear hb
        go_wp2_with (go_at_call 22; (with_reducible refine (HP.out _).mono ?_); rintro e w' ⟨rfl, rfl⟩)
        go_round
        case rel => exact ⟨k + 1, by omega, by rw [HS.out, HB.out]; simp, by go_num⟩
        case measure => simp [intOf]; omega
    · obtain rfl : k = 57 := by omega
      have hsp : spF d 57 = sp d := rfl
      rw [hsp]
      have hv : sp d < 18446744073709551616 := spF_lt' d 57 (by omega)
      have hs64 := syn_lt (sp d)
      go_wp2_with (go_at_call 24; (with_reducible refine (HSY.out _).mono ?_); rintro e w' ⟨rfl, rfl⟩)
      go_loop [3, 6] (fun v i => ∃ k : Nat, k ≤ 6 ∧ v = .int .u64 ((sp d ||| pbF (syn (sp d)) k : Nat) : Int) ∧ i = .int .i64 k) (fun _ i => 6 - (intOf i).toNat)
      case atStart => exact ⟨0, by omega, by simp [pbF], rfl⟩
      case round =>
        obtain ⟨k, hk, rfl, rfl⟩ := hrel
        by_cases hlt : k < 6
        · have hs := or_lt' hv (pbF_lt (syn (sp d)) k hk)
          have h5 : 2 ^ k ≤ 32 := Nat.pow_le_pow_right (by decide) (show k ≤ 5 by omega)
          have hpt := rpar_test (syn (sp d)) k hs64
          have HS : Hid (sp d ||| pbF (syn (sp d)) (k + 1) = (sp d ||| pbF (syn (sp d)) k) ||| (if (syn (sp d)).testBit k then 2 ^ (2 ^ k) else 0)) := Lib.hid (by rw [pbF, ← Nat.or_assoc])
          generalize (sp d ||| pbF (syn (sp d)) k) = v at hs HS
          have hpw := pow_wrap (show k < 64 by omega)
          generalize 2 ^ k = m at h5 HS hpw
          have hxk := bits_or_u64_nat v (2 ^ m) hs (pow_lt' (by omega))
          have hpm := pow_wrap (show m < 64 by omega)
          rw [show ((2 ^ m : Nat) : Int) = (2 : Int) ^ m by simp] at hpm hxk
          cases hb : (syn (sp d)).testBit k with
          | true =>
            have HB := Lib.hid hb
            rw [hb] at hpt
            clear hb
            go_wp2_with fail
            go_round
            case rel => exact ⟨k + 1, by omega, by rw [HS.out, if_pos HB.out], by go_num⟩
            case measure => simp [intOf]; omega
          | false =>
            have HB := Lib.hid hb
            rw [hb] at hpt
            clear hb
            go_wp2_with fail
            go_round
            case rel => exact ⟨k + 1, by omega, by rw [HS.out, HB.out]; simp, by go_num⟩
            case measure => simp [intOf]; omega
        · obtain rfl : k = 6 := by omega
          have he0 : sp d ||| pbF (syn (sp d)) 6 = enc0 d := rfl
          rw [he0]
          have hv0 : enc0 d < 18446744073709551616 := enc0_lt d
          have ho := ones_le (enc0 d)
          have hx1 := bits_or_u64_nat (enc0 d) 1 hv0 (by omega)
          rw [show ((1 : Nat) : Int) = 1 from rfl] at hx1
          by_cases hb : ones (enc0 d) % 2 = 1
          · have hb1 : ((ones (enc0 d) : Int) % 2 == 1) = true := by simp; omega
            have HE : Hid (enc d = enc0 d ||| 1) := Lib.hid (by rw [enc, if_pos hb])
            clear hb
            go_wp2_with (go_at_call 25; (with_reducible refine (HON.out _).mono ?_); rintro e w' ⟨rfl, rfl⟩)
            exact bodyPost_ret (v := .agg #[.int .u64 ((enc0 d ||| 1 : Nat) : Int), .int .i64 0]) (by simp [results, Tryd.results11, go_sem]) rfl ⟨by rw [HE.out], (Below.refl _ w).alloc (Nat.le_refl _) _⟩
          · have hb1 : ((ones (enc0 d) : Int) % 2 == 1) = false := by simp; omega
            have HE : Hid (enc d = enc0 d) := Lib.hid (by rw [enc, if_neg hb, Nat.or_zero])
            clear hb
            go_wp2_with (go_at_call 25; (with_reducible refine (HON.out _).mono ?_); rintro e w' ⟨rfl, rfl⟩)
            exact bodyPost_ret (v := .agg #[.int .u64 (enc0 d), .int .i64 0]) (by simp [results, Tryd.results11, go_sem]) rfl ⟨by rw [HE.out], (Below.refl _ w).alloc (Nat.le_refl _) _⟩
set_option maxHeartbeats 1000000 in
theorem rencode_big (d : Nat) (hd : ¬ d < 144115188075855872) (w : World) :
    Calls Tryd.prog 11 #[.int .u64 d] w fun e w' => e = .returned (.agg #[.int .u64 0, .int .i64 1]) ∧ Below w.heap.size w w' := by
  have t0 : ((d : Int) / 144115188075855872 != 0) = true := by simp; omega
  clear hd
  go_enter Tryd.func11, Tryd.ntmps11
  go_wp2
  exact bodyPost_ret (v := .agg #[.int .u64 0, .int .i64 1]) (by simp [results, Tryd.results11, go_sem]) rfl ⟨rfl, (Below.refl _ w).alloc (Nat.le_refl _) _⟩
theorem rencode_calls (d : Nat) (w : World) :
    Calls Tryd.prog 11 #[.int .u64 d] w fun e w' => e = .returned (.agg #[.int .u64 (encW d), .int .i64 (encE d)]) ∧ Below w.heap.size w w' := by
  unfold encW encE
  by_cases hd : d < 144115188075855872
  · rw [if_pos hd, if_pos hd]
    exact rencode_small d hd w
  · rw [if_neg hd, if_neg hd]
    exact rencode_big d hd w
set_option maxHeartbeats 2000000 in
theorem rdecode_calls (x : Nat) (hx : x < 18446744073709551616) (w : World) :
    Calls Tryd.prog 20 #[.int .u64 x] w fun e w' => e = .returned (.agg #[.int .u64 (decD x), .int .i64 (decN x), .int .i64 (decE x)]) ∧ Below w.heap.size w w' := by
  have hle := check_le x
  unfold decD decN decE
  have hch := rcheck_calls x hx
  rcases (show check x = 0 ∨ check x = 1 ∨ check x = 2 by omega) with h | h | h
  · simp only [h]
    rw [h] at hch
    have HC := Lib.hid hch
    have HD := Lib.hid (fun w => rdata_calls x hx w)
    clear hch h hle
    go_enter Tryd.func20, Tryd.ntmps20
    go_wp2_with (first | (go_at_call 18; (with_reducible refine (HC.out _).mono ?_); rintro e w' ⟨rfl, rfl⟩) | (go_at_call 29; (with_reducible refine (HD.out _).mono ?_); rintro e w' ⟨rfl, rfl⟩))
    exact bodyPost_ret (v := .agg #[.int .u64 (data x), .int .i64 0, .int .i64 0]) (by simp [results, Tryd.results20, go_sem]) rfl ⟨rfl, (Below.refl _ w).alloc (Nat.le_refl _) _⟩
  · simp only [h]
    rw [h] at hch
    have hsl := syn_lt x
    have hfl := flip_lt' hx hsl
    have HC := Lib.hid hch
    have HS := Lib.hid (fun w => rsyn_calls x hx w)
    have HF := Lib.hid (fun w => rflip_in x (syn x) hx hsl w)
    have HD := Lib.hid (fun w => rdata_calls (flip x (syn x)) hfl w)
    clear hch h hle hfl
    go_enter Tryd.func20, Tryd.ntmps20
    go_wp2_with (first | (go_at_call 18; (with_reducible refine (HC.out _).mono ?_); rintro e w' ⟨rfl, rfl⟩) | (go_at_call 29; (with_reducible refine (HD.out _).mono ?_); rintro e w' ⟨rfl, rfl⟩) | (go_at_call 24; (with_reducible refine (HS.out _).mono ?_); rintro e w' ⟨rfl, rfl⟩) | (go_at_call 14; (with_reducible refine (HF.out _).mono ?_); rintro e w' ⟨rfl, rfl⟩))
    exact bodyPost_ret (v := .agg #[.int .u64 (data (flip x (syn x))), .int .i64 1, .int .i64 0]) (by simp [results, Tryd.results20, go_sem]) rfl ⟨rfl, (Below.refl _ w).alloc (Nat.le_refl _) _⟩
  · simp only [h]
    rw [h] at hch
    have HC := Lib.hid hch
    clear hch h hle
    go_enter Tryd.func20, Tryd.ntmps20
    go_wp2_with (first | (go_at_call 18; (with_reducible refine (HC.out _).mono ?_); rintro e w' ⟨rfl, rfl⟩))
    exact bodyPost_ret (v := .agg #[.int .u64 0, .int .i64 0, .int .i64 6]) (by simp [results, Tryd.results20, go_sem]) rfl ⟨rfl, (Below.refl _ w).alloc (Nat.le_refl _) _⟩
end Ham
end Go.Proofs.YtpigonlbdleaeaaDoor
