/- The walk of the law HammingDistances. -/
import Derived.Test.YtpigonlbdleaeaaDoorHamCorr
namespace Go.Proofs.YtpigonlbdleaeaaDoor
open Go.RowKit
namespace Ham
theorem cut_xor (x y : Nat) : cut (x ^^^ y) = cut x ^^^ cut y := Nat.xor_mod_two_pow (n := 57)
theorem enc_cut_xor (x y : Nat) : enc (cut (x ^^^ y)) = enc (cut x) ^^^ enc (cut y) := by rw [cut_xor]; exact enc_xor (cut_lt x) (cut_lt y)
theorem dist_zero (x y : Nat) : ones (enc (cut x) ^^^ enc (cut y)) = 0 ↔ cut x = cut y := by
  constructor
  · intro h
    exact enc_inj (cut_lt x) (cut_lt y) (xor_eq_zero (ones_none (xor_lt64 (enc_lt _) (enc_lt _)) h))
  · intro h
    rw [h, Nat.xor_self, ones_zero]
theorem dist_four (x y : Nat) (h : cut x ≠ cut y) : 4 ≤ ones (enc (cut x) ^^^ enc (cut y)) :=
  code_weight (xor_lt64 (enc_lt _) (enc_lt _)) (code_xor (enc_code _) (enc_code _)) (fun h0 => h (enc_inj (cut_lt x) (cut_lt y) (xor_eq_zero h0)))
set_option maxRecDepth 100000 in
set_option maxHeartbeats 4000000 in
theorem distances_calls (x y : Nat) (hx : x < 18446744073709551616) (hy : y < 18446744073709551616) (w : World) (hT : GTab w) :
    Calls Tryd.prog 7 #[.int .u64 x, .int .u64 y] w fun e w' => e = .returned (.bool true) ∧ Below w.heap.size w w' := by
  have e1 := bits_xor_u64_nat x y hx hy
  have e2 := bits_xor_u64_nat (enc (cut x)) (enc (cut y)) (enc_lt' _) (enc_lt' _)
  have hxy : x ^^^ y < 18446744073709551616 := xor_lt' hx hy
  have HA := Lib.hid (fun w hT => enc_cut_calls x w hT)
  have HB := Lib.hid (fun w hT => enc_cut_calls y w hT)
  have HC : Hid (∀ w, GTab w → Calls Tryd.prog 10 #[.int .u64 (cut (x ^^^ y))] w fun e w' => e = .returned (.agg #[.int .u64 ((enc (cut x) ^^^ enc (cut y) : Nat) : Int), .int .i64 0]) ∧ Below w.heap.size w w') :=
    Lib.hid (fun w hT => by have := enc_cut_calls (x ^^^ y) w hT; rw [enc_cut_xor] at this; exact this)
  have HS := Lib.hid (fun w => dist_at _ (enc (cut x)) (enc (cut y)) (enc_lt' _) (enc_lt' _) rfl w)
  have hz := dist_zero x y
  have hf := dist_four x y
  generalize ones (enc (cut x) ^^^ enc (cut y)) = n at hz hf HS
  generalize hex : enc (cut x) = a at HA HB HC HS e2
  generalize hey : enc (cut y) = b at HA HB HC HS e2
  generalize hexy : a ^^^ b = c at HC e2
  clear hex hey hexy
  by_cases hc : cut x = cut y
  · have hn : n = 0 := hz.2 hc
    subst hn
    have t1 : ((cut x : Int) == (cut y : Int)) = true := by simp [hc]
    clear hz hf hc
    go_enter Tryd.func7, Tryd.ntmps7
    go_wp2_with fail
    refine (examples_calls _ hT).mono ?_
    rintro e w1 ⟨rfl, hb1⟩
    have hT1 := hT.below hb1
    go_wp2_with fail
    refine (cutc_calls _ hx _).mono ?_
    rintro e w' ⟨rfl, rfl⟩
    go_wp2_with fail
    refine (HA.out _ hT1).mono ?_
    rintro e w2 ⟨rfl, hb2⟩
    have hT2 := hT1.below hb2
    go_wp2_with fail
    refine (cutc_calls _ hy _).mono ?_
    rintro e w' ⟨rfl, rfl⟩
    go_wp2_with fail
    refine (HB.out _ hT2).mono ?_
    rintro e w3 ⟨rfl, hb3⟩
    have hT3 := hT2.below hb3
    go_wp2_with fail
    refine (cutc_calls _ hxy _).mono ?_
    rintro e w' ⟨rfl, rfl⟩
    go_wp2_with fail
    refine (HC.out _ hT3).mono ?_
    rintro e w4 ⟨rfl, hb4⟩
    go_wp2_with fail
    refine (HS.out _).mono ?_
    rintro e w' ⟨rfl, rfl⟩
    go_wp2_with fail
    refine (cutc_calls _ hx _).mono ?_
    rintro e w' ⟨rfl, rfl⟩
    go_wp2_with fail
    refine (cutc_calls _ hy _).mono ?_
    rintro e w' ⟨rfl, rfl⟩
    go_wp2_with fail
    go_ret
    exact ⟨rfl, bb hb1 (bb hb2 (bb hb3 (bb hb4 (bb (balloc _ _) (bb (balloc _ _) (balloc _ _))))))⟩
  · have hn : n ≠ 0 := fun h => hc (hz.1 h)
    have hn4 := hf hc
    have t1 : ((cut x : Int) == (cut y : Int)) = false := by simp; omega
    have t2 : ((n : Int) == 0) = false := by simp; omega
    have t3 : decide (4 ≤ (n : Int)) = true := by simp; omega
    clear hz hf hc hn
    go_enter Tryd.func7, Tryd.ntmps7
    go_wp2_with fail
    refine (examples_calls _ hT).mono ?_
    rintro e w1 ⟨rfl, hb1⟩
    have hT1 := hT.below hb1
    go_wp2_with fail
    refine (cutc_calls _ hx _).mono ?_
    rintro e w' ⟨rfl, rfl⟩
    go_wp2_with fail
    refine (HA.out _ hT1).mono ?_
    rintro e w2 ⟨rfl, hb2⟩
    have hT2 := hT1.below hb2
    go_wp2_with fail
    refine (cutc_calls _ hy _).mono ?_
    rintro e w' ⟨rfl, rfl⟩
    go_wp2_with fail
    refine (HB.out _ hT2).mono ?_
    rintro e w3 ⟨rfl, hb3⟩
    have hT3 := hT2.below hb3
    go_wp2_with fail
    refine (cutc_calls _ hxy _).mono ?_
    rintro e w' ⟨rfl, rfl⟩
    go_wp2_with fail
    refine (HC.out _ hT3).mono ?_
    rintro e w4 ⟨rfl, hb4⟩
    go_wp2_with fail
    refine (HS.out _).mono ?_
    rintro e w' ⟨rfl, rfl⟩
    go_wp2_with fail
    refine (cutc_calls _ hx _).mono ?_
    rintro e w' ⟨rfl, rfl⟩
    go_wp2_with fail
    refine (cutc_calls _ hy _).mono ?_
    rintro e w' ⟨rfl, rfl⟩
    go_wp2_with fail
    go_ret
    exact ⟨rfl, bb hb1 (bb hb2 (bb hb3 (bb hb4 (bb (balloc _ _) (bb (balloc _ _) (balloc _ _))))))⟩
theorem distances_law (a : Int) (ha : (Lit.int .u64 a).wf = true) (b : Int) (hb : (Lit.int .u64 b).wf = true) (w : World) (hT : GTab w) :
    Calls Tryd.prog 7 #[.int .u64 a, .int .u64 b] w fun e w' => e = .returned (.bool true) ∧ Below w.heap.size w w' := by
  obtain ⟨n, rfl, hn⟩ := of_wf ha
  obtain ⟨m, rfl, hm⟩ := of_wf hb
  exact distances_calls n m hn hm w hT
end Ham
end Go.Proofs.YtpigonlbdleaeaaDoor
