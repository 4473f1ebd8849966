/- The contracts of hamming.Encode and Decode, and of the law's encoded and decoded, at every number. -/
import Derived.Test.YtpigonlbdleaeaaDoorHamDec
import Derived.Laws.ResultCell
namespace Go.Proofs.YtpigonlbdleaeaaDoor
open Go.RowKit
namespace Ham
def encW (d : Nat) : Nat := if d < 144115188075855872 then enc d else 0
def encE (d : Nat) : Nat := if d < 144115188075855872 then 0 else 1
def decD (x : Nat) : Nat := if check x = 0 then data x else if check x = 1 then data (flip x (syn x)) else 0
def decN (x : Nat) : Nat := if check x = 1 then 1 else 0
def decE (x : Nat) : Nat := if check x = 2 then 6 else 0
set_option maxHeartbeats 1000000 in
theorem encode_big (d : Nat) (hd : ¬ d < 144115188075855872) (w : World) :
    Calls Tryd.prog 21 #[.int .u64 d] w fun e w' => e = .returned (.tuple #[.int .u64 0, .int .i64 1]) ∧ Below w.heap.size w w' := by
  have hd' : decide (144115188075855872 ≤ (d : Int)) = true := decide_eq_true (by omega)
  have Hd := Lib.hid hd
  clear hd
  go_enter Tryd.func21, Tryd.ntmps21
  go_wp2
  go_ret2
  exact ⟨rfl, (Below.refl _ w).alloc (Nat.le_refl _) _⟩
theorem encode_calls (d : Nat) (w : World) (hT : GTab w) :
    Calls Tryd.prog 21 #[.int .u64 d] w fun e w' => e = .returned (.tuple #[.int .u64 (encW d), .int .i64 (encE d)]) ∧ Below w.heap.size w w' := by
  unfold encW encE
  by_cases hd : d < 144115188075855872
  · rw [if_pos hd, if_pos hd]
    exact callsIn_wide.1 (encode_in 9 (by omega) d hd w hT)
  · rw [if_neg hd, if_neg hd]
    exact encode_big d hd w
set_option maxHeartbeats 1000000 in
theorem decode_two (x : Nat) (hx : x < 18446744073709551616) (hc : check x = 2) (w : World) (hT : GTab w) :
    Calls Tryd.prog 28 #[.int .u64 x] w fun e w' => e = .returned (.tuple #[.int .u64 0, .int .i64 0, .int .i64 6]) ∧ Below w.heap.size w w' := by
  have hcc := check_calls x hx
  rw [hc] at hcc
  have hTW := hT.below ((Below.refl _ w).alloc (Nat.le_refl _) (.cells #[.int .u64 x] 22))
  go_enter Tryd.func28, Tryd.ntmps28
  go_wp2_with (go_at_call 17; refine (hcc _ hTW).mono ?_; rintro e w' ⟨rfl, rfl⟩)
  go_ret3
  exact ⟨rfl, (Below.refl _ w).alloc (Nat.le_refl _) _⟩
theorem decode_calls (x : Nat) (hx : x < 18446744073709551616) (w : World) (hT : GTab w) :
    Calls Tryd.prog 28 #[.int .u64 x] w fun e w' => e = .returned (.tuple #[.int .u64 (decD x), .int .i64 (decN x), .int .i64 (decE x)]) ∧ Below w.heap.size w w' := by
  have hle := check_le x
  unfold decD decN decE
  rcases (show check x = 0 ∨ check x = 1 ∨ check x = 2 by omega) with h | h | h
  · simp only [h]
    exact callsIn_wide.1 (decode_in0 9 (by omega) x hx h w hT)
  · simp only [h]
    exact callsIn_wide.1 (decode_in1 9 (by omega) x hx h w hT)
  · simp only [h]
    exact decode_two x hx h w hT
set_option maxHeartbeats 2000000 in
theorem encoded_calls (d : Nat) (w : World) (hT : GTab w) :
    Calls Tryd.prog 10 #[.int .u64 d] w fun e w' => e = .returned (.agg #[.int .u64 (encW d), .int .i64 (encE d)]) ∧ Below w.heap.size w w' := by
  have hTW := hT.below ((Below.refl _ w).alloc (Nat.le_refl _) (.cells #[.int .u64 0, .int .i64 0] 27))
  go_enter Tryd.func10, Tryd.ntmps10
  go_wp2_with fail
  refine (encode_calls d _ hTW).mono ?_
  rintro e w1 ⟨rfl, hb1⟩
  have hz : w.heap.size < w1.heap.size := by have := hb1.size; simp at this; omega
  have q0 : w1.cell? ⟨w.heap.size, 0, none⟩ = some (.int .u64 0) := (hb1.cell (p := ⟨w.heap.size, 0, none⟩) (by simp)).trans (by simp [go_sem])
  have z0 : w1.frozen? ⟨w.heap.size, 0, none⟩ = false := (hb1.frozen (p := ⟨w.heap.size, 0, none⟩) (by simp)).trans (by simp [go_sem])
  have q1 : w1.cell? ⟨w.heap.size, 1, none⟩ = some (.int .i64 0) := (hb1.cell (p := ⟨w.heap.size, 1, none⟩) (by simp)).trans (by simp [go_sem])
  have z1 : w1.frozen? ⟨w.heap.size, 1, none⟩ = false := (hb1.frozen (p := ⟨w.heap.size, 1, none⟩) (by simp)).trans (by simp [go_sem])
  go_wp2
  exact bodyPost_ret (v := .agg #[.int .u64 (encW d), .int .i64 (encE d)]) (by simp [results, Tryd.results10, go_sem, q0, q1]) rfl ⟨rfl, (((((Below.refl _ w).alloc (Nat.le_refl _) _).trans (hb1.mono (by simp))).setCell (p := ⟨w.heap.size, 0, none⟩) (Nat.le_refl _) _).setCell (p := ⟨w.heap.size, 1, none⟩) (Nat.le_refl _) _)⟩
set_option maxHeartbeats 2000000 in
theorem decoded_calls (d : Nat) (hd : d < 18446744073709551616) (w : World) (hT : GTab w) :
    Calls Tryd.prog 19 #[.int .u64 d] w fun e w' => e = .returned (.agg #[.int .u64 (decD d), .int .i64 (decN d), .int .i64 (decE d)]) ∧ Below w.heap.size w w' := by
  have hTW := hT.below ((Below.refl _ w).alloc (Nat.le_refl _) (.cells #[.int .u64 0, .int .i64 0, .int .i64 0] 35))
  go_enter Tryd.func19, Tryd.ntmps19
  go_wp2_with fail
  refine (decode_calls d hd _ hTW).mono ?_
  rintro e w1 ⟨rfl, hb1⟩
  have hz : w.heap.size < w1.heap.size := by have := hb1.size; simp at this; omega
  have q0 : w1.cell? ⟨w.heap.size, 0, none⟩ = some (.int .u64 0) := (hb1.cell (p := ⟨w.heap.size, 0, none⟩) (by simp)).trans (by simp [go_sem])
  have z0 : w1.frozen? ⟨w.heap.size, 0, none⟩ = false := (hb1.frozen (p := ⟨w.heap.size, 0, none⟩) (by simp)).trans (by simp [go_sem])
  have q1 : w1.cell? ⟨w.heap.size, 1, none⟩ = some (.int .i64 0) := (hb1.cell (p := ⟨w.heap.size, 1, none⟩) (by simp)).trans (by simp [go_sem])
  have z1 : w1.frozen? ⟨w.heap.size, 1, none⟩ = false := (hb1.frozen (p := ⟨w.heap.size, 1, none⟩) (by simp)).trans (by simp [go_sem])
  have q2 : w1.cell? ⟨w.heap.size, 2, none⟩ = some (.int .i64 0) := (hb1.cell (p := ⟨w.heap.size, 2, none⟩) (by simp)).trans (by simp [go_sem])
  have z2 : w1.frozen? ⟨w.heap.size, 2, none⟩ = false := (hb1.frozen (p := ⟨w.heap.size, 2, none⟩) (by simp)).trans (by simp [go_sem])
  go_wp2
  exact bodyPost_ret (v := .agg #[.int .u64 (decD d), .int .i64 (decN d), .int .i64 (decE d)]) (by simp [results, Tryd.results19, go_sem, q0, q1, q2]) rfl ⟨rfl, ((((((Below.refl _ w).alloc (Nat.le_refl _) _).trans (hb1.mono (by simp))).setCell (p := ⟨w.heap.size, 0, none⟩) (Nat.le_refl _) _).setCell (p := ⟨w.heap.size, 1, none⟩) (Nat.le_refl _) _).setCell (p := ⟨w.heap.size, 2, none⟩) (Nat.le_refl _) _)⟩
end Ham
end Go.Proofs.YtpigonlbdleaeaaDoor
