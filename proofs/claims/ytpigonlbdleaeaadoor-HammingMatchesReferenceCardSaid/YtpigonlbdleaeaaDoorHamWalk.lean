/- The walks of the functions of package hamming that only compute. -/
import Derived.Test.YtpigonlbdleaeaaDoorHamTz
import Derived.Test.YtpigonlbdleaeaaDoorHamSwar
import Derived.Outline
import Derived.WalkLawsBesides
import Derived.Lib.Hide
import Derived.LoopTactic
namespace Go.Proofs.YtpigonlbdleaeaaDoor
open Go.RowKit
namespace Ham
theorem ret_int {k : IntKind} {a b : Int} (h : a = b) : Ending.returned (.int k a) = .returned (.int k b) := by rw [h]
theorem m85 : mk 85 8 = 6148914691236517205 := by decide +kernel
theorem m51 : mk 51 8 = 3689348814741910323 := by decide +kernel
theorem m15 : mk 15 8 = 1085102592571150095 := by decide +kernel
theorem w64 (n : Int) (h0 : 0 ≤ n) (h1 : n < 18446744073709551616) : IntKind.u64.wrap n = n := by rw [IntKind.wrap_u64]; omega
theorem s1_int (x : Nat) (hx : x < 18446744073709551616) : IntKind.u64.wrap (bits BinOp.and IntKind.u64 ((x : Int) / 2) 6148914691236517205 + bits BinOp.and IntKind.u64 (x : Int) 6148914691236517205) = (s1 8 x : Nat) ∧ s1 8 x < 12297829382473034411 := by
  have h1 : x / 2 &&& 6148914691236517205 ≤ 6148914691236517205 := Nat.and_le_right
  have h2 : x &&& 6148914691236517205 ≤ 6148914691236517205 := Nat.and_le_right
  unfold s1
  rw [m85, show ((x : Int) / 2) = ((x / 2 : Nat) : Int) by omega, show (6148914691236517205 : Int) = ((6148914691236517205 : Nat) : Int) by rfl, bits_and_u64_nat _ _ (by omega) (by omega), bits_and_u64_nat _ _ hx (by omega)]
  exact ⟨by rw [w64 _ (by omega) (by omega)]; omega, by omega⟩
theorem s2_int (x : Nat) (hx : x < 12297829382473034411) : IntKind.u64.wrap (bits BinOp.and IntKind.u64 ((x : Int) / 4) 3689348814741910323 + bits BinOp.and IntKind.u64 (x : Int) 3689348814741910323) = (s2 8 x : Nat) ∧ s2 8 x < 7378697629483820647 := by
  have h1 : x / 4 &&& 3689348814741910323 ≤ 3689348814741910323 := Nat.and_le_right
  have h2 : x &&& 3689348814741910323 ≤ 3689348814741910323 := Nat.and_le_right
  unfold s2
  rw [m51, show ((x : Int) / 4) = ((x / 4 : Nat) : Int) by omega, show (3689348814741910323 : Int) = ((3689348814741910323 : Nat) : Int) by rfl, bits_and_u64_nat _ _ (by omega) (by omega), bits_and_u64_nat _ _ (by omega) (by omega)]
  exact ⟨by rw [w64 _ (by omega) (by omega)]; omega, by omega⟩
theorem s3_int (x : Nat) (hx : x < 7378697629483820647) : bits BinOp.and IntKind.u64 (IntKind.u64.wrap ((x : Int) / 16 + (x : Int))) 1085102592571150095 = (s3 8 x : Nat) := by
  unfold s3
  rw [m15, w64 _ (by omega) (by omega), show (x : Int) / 16 + (x : Int) = ((x / 16 + x : Nat) : Int) by omega, show (1085102592571150095 : Int) = ((1085102592571150095 : Nat) : Int) by rfl, bits_and_u64_nat _ _ (by omega) (by omega)]
theorem last_int (z : Nat) (hz : z < 1152921504606846976) :
    bits BinOp.and IntKind.i64 (wrap64 (IntKind.u64.wrap (IntKind.u64.wrap (IntKind.u64.wrap ((z : Int) + (z : Int) / 256) + IntKind.u64.wrap ((z : Int) + (z : Int) / 256) / 65536) + IntKind.u64.wrap (IntKind.u64.wrap ((z : Int) + (z : Int) / 256) + IntKind.u64.wrap ((z : Int) + (z : Int) / 256) / 65536) / 4294967296))) 127 =
      (((z + z / 256 + (z + z / 256) / 65536 + (z + z / 256 + (z + z / 256) / 65536) / 4294967296) % 128 : Nat) : Int) := by
  rw [w64 ((z : Int) + (z : Int) / 256) (by omega) (by omega)]
  obtain ⟨y, hy⟩ : ∃ y, y = z + z / 256 := ⟨_, rfl⟩
  rw [show (z : Int) + (z : Int) / 256 = (y : Int) by omega, ← hy]
  have hy1 : y < 2305843009213693952 := by omega
  clear hy hz
  rw [w64 ((y : Int) + (y : Int) / 65536) (by omega) (by omega)]
  obtain ⟨v, hv⟩ : ∃ v, v = y + y / 65536 := ⟨_, rfl⟩
  rw [show (y : Int) + (y : Int) / 65536 = (v : Int) by omega, ← hv]
  have hv1 : v < 4611686018427387904 := by omega
  clear hv hy1
  rw [w64 ((v : Int) + (v : Int) / 4294967296) (by omega) (by omega)]
  have hu : v + v / 4294967296 < 9223372036854775808 := by omega
  rw [show (v : Int) + (v : Int) / 4294967296 = ((v + v / 4294967296 : Nat) : Int) by omega]
  generalize v + v / 4294967296 = u at hu ⊢
  rw [show wrap64 (u : Int) = (u : Int) by unfold wrap64; omega]
  have := bits_mask .i64 63 (by decide) (fun n h0 h1 => by rw [IntKind.wrap_i64]; omega) 7 (by decide) (u : Int) (by omega) (by omega)
  rw [show (127 : Int) = (128 : Int) - 1 by rfl]
  refine Eq.trans ?_ (this.trans ?_)
  · rfl
  · omega
theorem ones_int (x : Nat) (hx : x < 18446744073709551616) : ∃ y z t : Nat,
    IntKind.u64.wrap (bits BinOp.and IntKind.u64 ((x : Int) / 2) 6148914691236517205 + bits BinOp.and IntKind.u64 (x : Int) 6148914691236517205) = (y : Int) ∧
    IntKind.u64.wrap (bits BinOp.and IntKind.u64 ((y : Int) / 4) 3689348814741910323 + bits BinOp.and IntKind.u64 (y : Int) 3689348814741910323) = (z : Int) ∧
    bits BinOp.and IntKind.u64 (IntKind.u64.wrap ((z : Int) / 16 + (z : Int))) 1085102592571150095 = (t : Int) ∧
    bits BinOp.and IntKind.i64 (wrap64 (IntKind.u64.wrap (IntKind.u64.wrap (IntKind.u64.wrap ((t : Int) + (t : Int) / 256) + IntKind.u64.wrap ((t : Int) + (t : Int) / 256) / 65536) + IntKind.u64.wrap (IntKind.u64.wrap ((t : Int) + (t : Int) / 256) + IntKind.u64.wrap ((t : Int) + (t : Int) / 256) / 65536) / 4294967296))) 127 = (ones x : Int) := by
  obtain ⟨e1, h1⟩ := s1_int x hx
  obtain ⟨e2, h2⟩ := s2_int _ h1
  have e3 := s3_int _ h2
  obtain ⟨t, ht, ht1, ht2⟩ := fold_cnt x hx
  rw [ht] at e3
  exact ⟨_, _, t, e1, e2, e3, by rw [last_int t ht1, ht2]⟩
set_option maxHeartbeats 1000000 in
theorem ones_calls (x : Nat) (hx : x < 18446744073709551616) (w : World) :
    Calls Tryd.prog 26 #[.int .u64 x] w fun e w' => e = .returned (.int .i64 (ones x)) ∧ w' = w := by
  go_enter Tryd.func26, Tryd.ntmps26
  go_wp2
  go_ret
  refine ⟨ret_int ?_, rfl⟩
  obtain ⟨y, z, t, e1, e2, e3, e4⟩ := ones_int x hx
  rw [e1, e2, e3, e4]
end Ham
end Go.Proofs.YtpigonlbdleaeaaDoor
