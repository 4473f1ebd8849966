/- The walk of the law HammingRoundTrip. -/
import Derived.Test.YtpigonlbdleaeaaDoorHamEx
import Derived.OpenShut
namespace Go.Proofs.YtpigonlbdleaeaaDoor
open Go.RowKit
namespace Ham
def cut (d : Nat) : Nat := d % 144115188075855872
theorem cut_lt (d : Nat) : cut d < 144115188075855872 := Nat.mod_lt _ (by decide)
theorem enc_lt' (d : Nat) : enc d < 18446744073709551616 := enc_lt d
theorem encW_cut (d : Nat) : encW (cut d) = enc (cut d) := if_pos (cut_lt d)
theorem encE_cut (d : Nat) : encE (cut d) = 0 := if_pos (cut_lt d)
theorem check_enc (d : Nat) : check (enc d) = 0 := check_code.2 (enc_code d)
theorem data_enc' (d : Nat) : data (enc (cut d)) = cut d := data_enc (cut_lt d)
theorem enc_cut_calls (d : Nat) (w : World) (hT : GTab w) :
    Calls Tryd.prog 10 #[.int .u64 (cut d)] w fun e w' => e = .returned (.agg #[.int .u64 (enc (cut d)), .int .i64 0]) ∧ Below w.heap.size w w' :=
  enc_at _ _ _ (cut d) rfl (by rw [encW_cut]) (by rw [encE_cut]; rfl) w hT
theorem dec_enc_calls (d : Nat) (w : World) (hT : GTab w) :
    Calls Tryd.prog 19 #[.int .u64 (enc (cut d))] w fun e w' => e = .returned (.agg #[.int .u64 (cut d), .int .i64 0, .int .i64 0]) ∧ Below w.heap.size w w' :=
  dec_at _ _ _ _ (enc (cut d)) (enc_lt' _) rfl (by rw [decD, if_pos (check_enc _), data_enc']) (by rw [decN, check_enc]; rfl) (by rw [decE, check_enc]; rfl) w hT
theorem cutc_calls (x : Nat) (hx : x < 18446744073709551616) (w : World) :
    Calls Tryd.prog 12 #[.int .u64 x] w fun e w' => e = .returned (.int .u64 (cut x)) ∧ w' = w := cut_calls x hx w
set_option maxRecDepth 100000 in
set_option maxHeartbeats 4000000 in
theorem round_calls (d : Nat) (hd : d < 18446744073709551616) (w : World) (hT : GTab w) :
    Calls Tryd.prog 4 #[.int .u64 d] w fun e w' => e = .returned (.bool true) ∧ Below w.heap.size w w' := by
  by_cases hs : d < 144115188075855872
  · have t1 : ((d : Int) / 144115188075855872 != 0) = false := by simp; omega
    have HS := Lib.hid hs
    clear hs
    go_enter Tryd.func4, Tryd.ntmps4
    go_wp2_with fail
    refine (examples_calls _ hT).mono ?_
    rintro e w1 ⟨rfl, hb1⟩
    have hT1 := hT.below hb1
    go_wp2_with fail
    refine (cutc_calls _ hd _).mono ?_
    rintro e w' ⟨rfl, rfl⟩
    go_wp2_with fail
    refine (enc_cut_calls d _ hT1).mono ?_
    rintro e w2 ⟨rfl, hb2⟩
    have hT2 := hT1.below hb2
    have hT3 := hT2.below ((Below.refl _ w2).alloc (Nat.le_refl _) (.cells #[.int .u64 (enc (cut d)), .int .i64 0] 27))
    go_wp2_with fail
    refine (check_at _ 0 (enc (cut d)) (enc_lt' _) rfl (by rw [check_enc]; rfl) _ hT3).mono ?_
    rintro e w' ⟨rfl, rfl⟩
    go_wp2_with fail
    refine (dec_enc_calls d _ hT3).mono ?_
    rintro e w4 ⟨rfl, hb4⟩
    go_wp2_with fail
    refine (cutc_calls _ hd _).mono ?_
    rintro e w' ⟨rfl, rfl⟩
    go_wp2_with fail
    go_ret
    exact ⟨rfl, bb hb1 (bb hb2 (bb ((Below.refl _ _).alloc (Nat.le_refl _) _) hb4))⟩
  · have t1 : ((d : Int) / 144115188075855872 != 0) = true := by simp; omega
    have hbig := fun w hT => enc_at (d : Int) 0 1 d rfl (by rw [encW, if_neg hs]; rfl) (by rw [encE, if_neg hs]; rfl) w hT
    have HB := Lib.hid hbig
    have HS := Lib.hid hs
    clear hs hbig
    go_enter Tryd.func4, Tryd.ntmps4
    go_wp2_with fail
    refine (examples_calls _ hT).mono ?_
    rintro e w0 ⟨rfl, hb0⟩
    have hT0 := hT.below hb0
    go_wp2_with fail
    refine (HB.out _ hT0).mono ?_
    rintro e w1 ⟨rfl, hb1⟩
    have hT1 := hT0.below hb1
    go_wp2_with fail
    refine (cutc_calls _ hd _).mono ?_
    rintro e w' ⟨rfl, rfl⟩
    go_wp2_with fail
    refine (enc_cut_calls d _ hT1).mono ?_
    rintro e w2 ⟨rfl, hb2⟩
    have hT2 := hT1.below hb2
    have hT3 := hT2.below ((Below.refl _ w2).alloc (Nat.le_refl _) (.cells #[.int .u64 (enc (cut d)), .int .i64 0] 27))
    go_wp2_with fail
    refine (check_at _ 0 (enc (cut d)) (enc_lt' _) rfl (by rw [check_enc]; rfl) _ hT3).mono ?_
    rintro e w' ⟨rfl, rfl⟩
    go_wp2_with fail
    refine (dec_enc_calls d _ hT3).mono ?_
    rintro e w4 ⟨rfl, hb4⟩
    go_wp2_with fail
    refine (cutc_calls _ hd _).mono ?_
    rintro e w' ⟨rfl, rfl⟩
    go_wp2_with fail
    go_ret
    exact ⟨rfl, bb hb0 (bb hb1 (bb hb2 (bb ((Below.refl _ _).alloc (Nat.le_refl _) _) hb4)))⟩
theorem of_wf {a : Int} (h : (Lit.int .u64 a).wf = true) : ∃ n : Nat, a = n ∧ n < 18446744073709551616 := by
  have hb := bounds_u64 h
  exact ⟨a.toNat, by omega, by omega⟩
theorem round_law (a : Int) (h : (Lit.int .u64 a).wf = true) (w : World) (hT : GTab w) :
    Calls Tryd.prog 4 #[.int .u64 a] w fun e w' => e = .returned (.bool true) ∧ Below w.heap.size w w' := by
  obtain ⟨n, rfl, hn⟩ := of_wf h
  exact round_calls n hn w hT
end Ham
end Go.Proofs.YtpigonlbdleaeaaDoor
