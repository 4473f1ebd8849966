/- The walk of the laws' examples. -/
import Derived.Test.YtpigonlbdleaeaaDoorHamCalls
import Derived.WalkLawsBesides
import Derived.Laws.StructEq
namespace Go.Proofs.YtpigonlbdleaeaaDoor
open Go.RowKit
namespace Ham
theorem bb {w a b : World} (h : Below w.heap.size w a) (k : Below a.heap.size a b) : Below w.heap.size w b := h.trans (k.mono h.size)
theorem enc_at (a b c : Int) (n : Nat) (ha : a = n) (hb : (encW n : Int) = b) (hc : (encE n : Int) = c) (w : World) (hT : GTab w) :
    Calls Tryd.prog 10 #[.int .u64 a] w fun e w' => e = .returned (.agg #[.int .u64 b, .int .i64 c]) ∧ Below w.heap.size w w' := by
  subst ha hb hc
  exact encoded_calls n w hT
theorem dec_at (a b c d : Int) (n : Nat) (hn : n < 18446744073709551616) (ha : a = n) (hb : (decD n : Int) = b) (hc : (decN n : Int) = c) (hd : (decE n : Int) = d) (w : World) (hT : GTab w) :
    Calls Tryd.prog 19 #[.int .u64 a] w fun e w' => e = .returned (.agg #[.int .u64 b, .int .i64 c, .int .i64 d]) ∧ Below w.heap.size w w' := by
  subst ha hb hc hd
  exact decoded_calls n hn w hT
theorem check_at (a b : Int) (n : Nat) (hn : n < 18446744073709551616) (ha : a = n) (hb : (check n : Int) = b) (w : World) (hT : GTab w) :
    Calls Tryd.prog 17 #[.int .u64 a] w fun e w' => e = .returned (.int .i64 b) ∧ w' = w := by
  subst ha hb
  exact check_calls n hn w hT
set_option maxRecDepth 100000 in
set_option maxHeartbeats 4000000 in
theorem examples_calls (w : World) (hT : GTab w) :
    Calls Tryd.prog 9 #[] w fun e w' => e = .returned (.bool true) ∧ Below w.heap.size w w' := by
  have f1 := fun w => flip_in 15 3 (by omega) (by omega) w
  have f2 := fun w => flip_out 15 64 (by omega) w
  have f3 := fun w => distance_calls 15 60 (by omega) (by omega) w
  rw [show ones (15 ^^^ 60) = 4 by decide +kernel] at f3
  rw [show flip 15 3 = 7 by decide +kernel] at f1
  have F1 := Lib.hid f1
  have F2 := Lib.hid f2
  have F3 := Lib.hid f3
  clear f1 f2 f3
  go_enter Tryd.func9, Tryd.ntmps9
  go_wp2_with fail
  refine (enc_at 0 0 0 0 rfl (by decide +kernel) (by decide +kernel) _ hT).mono ?_
  rintro e w1 ⟨rfl, hb1⟩
  have hT1 := hT.below hb1
  go_wp2_with fail
  refine (enc_at 1 15 0 1 rfl (by decide +kernel) (by decide +kernel) _ hT1).mono ?_
  rintro e w2 ⟨rfl, hb2⟩
  have hT2 := hT1.below hb2
  go_wp2_with fail
  refine (enc_at 2 51 0 2 rfl (by decide +kernel) (by decide +kernel) _ hT2).mono ?_
  rintro e w3 ⟨rfl, hb3⟩
  have hT3 := hT2.below hb3
  go_wp2_with fail
  refine (enc_at 3 60 0 3 rfl (by decide +kernel) (by decide +kernel) _ hT3).mono ?_
  rintro e w4 ⟨rfl, hb4⟩
  have hT4 := hT3.below hb4
  go_wp2_with fail
  refine (enc_at 144115188075855872 0 1 144115188075855872 rfl (by decide +kernel) (by decide +kernel) _ hT4).mono ?_
  rintro e w5 ⟨rfl, hb5⟩
  have hT5 := hT4.below hb5
  go_wp2_with fail
  refine (check_at 15 0 15 (by omega) rfl (by decide +kernel) _ hT5).mono ?_
  rintro e w' ⟨rfl, rfl⟩
  go_wp2_with fail
  refine (check_at 14 1 14 (by omega) rfl (by decide +kernel) _ hT5).mono ?_
  rintro e w' ⟨rfl, rfl⟩
  go_wp2_with fail
  refine (check_at 12 2 12 (by omega) rfl (by decide +kernel) _ hT5).mono ?_
  rintro e w' ⟨rfl, rfl⟩
  go_wp2_with fail
  refine (dec_at 14 1 1 0 14 (by omega) rfl (by decide +kernel) (by decide +kernel) (by decide +kernel) _ hT5).mono ?_
  rintro e w6 ⟨rfl, hb6⟩
  have hT6 := hT5.below hb6
  go_wp2_with fail
  refine (dec_at 12 0 0 6 12 (by omega) rfl (by decide +kernel) (by decide +kernel) (by decide +kernel) _ hT6).mono ?_
  rintro e w7 ⟨rfl, hb7⟩
  have hT7 := hT6.below hb7
  go_wp2_with fail
  refine (F1.out _).mono ?_
  rintro e w' ⟨rfl, rfl⟩
  go_wp2_with fail
  refine (F2.out _).mono ?_
  rintro e w' ⟨rfl, rfl⟩
  go_wp2_with fail
  refine (F3.out _).mono ?_
  rintro e w' ⟨rfl, rfl⟩
  go_wp2_with fail
  go_ret
  exact ⟨rfl, bb hb1 (bb hb2 (bb hb3 (bb hb4 (bb hb5 (bb hb6 hb7)))))⟩
end Ham
end Go.Proofs.YtpigonlbdleaeaaDoor
