/- The iterator hamming.places: its contract. -/
import Derived.RangeFuncNested
import Derived.RangeFuncBound
import Derived.RangeFuncCalls
import Derived.RangeFuncLeaves
import Derived.Shelf.Abstract
import Derived.Shelf.RegionOpen
import Derived.WalkKit
import Derived.OwnWalkIn
import Derived.TacticsInMore
import Derived.LoopNIn
import Derived.LoopIn
import Derived.Test.YtpigonlbdleaeaaDoorHamFns
namespace Go.Proofs.YtpigonlbdleaeaaDoor
open Go.RowKit Go.Shelf
namespace Ham
attribute [local go_sem] Oper.semAt_some
abbrev encs (i : Fin 57) : Array Value := #[.int .i64 (i.1 : Int), .int .i64 (place i.1 : Int)]
def cntp (p : Nat) : Nat := (pl.filter fun q => decide (q < p)).length
theorem cnt_step : ∀ p, p < 64 → 3 ≤ p → (p &&& (p - 1) = 0 → cntp (p + 1) = cntp p) ∧ (p &&& (p - 1) ≠ 0 → cntp p < 57 ∧ place (cntp p) = p ∧ cntp (p + 1) = cntp p + 1) := by decide +kernel
theorem cnt_last : cntp 64 = 57 ∧ cntp 3 = 0 := by decide +kernel
set_option maxHeartbeats 1000000 in
/-- It yields the 57 data positions in order, with their numbers. -/
theorem places_stops (F : Fence) (n : Nat) (hf : F.fn 31) (hro : F.round = none) (hn : 1 ≤ n) (w : World) :
    SeqStopsA F n Tryd.prog 31 #[] encs (fun xs => xs.map Fin.val = List.range 57) (fun _ => True) 57 w := fun l J Jx W _ _ _ hY h0 => by
  refine callsIn_of_wp Tryd.func31 rfl hf ?_ hro
  simp only [Tryd.ntmps31, List.size_toArray, List.length_cons, List.length_nil, Nat.reduceAdd, Nat.reduceSub, Array.replicate_succ, Array.replicate_zero, List.push_toArray, List.append_toArray, List.nil_append, List.cons_append]
  gi_wp2
  gi_loopw [2, 3] (fun i p wr => ∃ (pre : List (Fin 57)) (q : Nat), 3 ≤ q ∧ q ≤ 64 ∧ pre.map Fin.val = List.range (cntp q) ∧ i = .int .i64 (cntp q) ∧ p = .int .i64 q ∧ J pre wr)
    (fun _ p _ => 64 - (intOf p).toNat)
  case atStart =>
    exact ⟨[], 3, by omega, by omega, by simp [cnt_last.2], by rw [cnt_last.2]; rfl, rfl, h0⟩
  case round =>
    obtain ⟨pre, q, hq3, hq, hpre, rfl, rfl, hJ⟩ := hrel
    by_cases hlt : q < 64
    · have hb : bits .and .i64 (q : Int) ((q : Int) - 1) = ((q &&& (q - 1) : Nat) : Int) := by
        rw [show (q : Int) - 1 = ((q - 1 : Nat) : Int) by omega, bits_and_i64 _ _ (by omega) (by omega)]
      obtain ⟨hz, hnz⟩ := cnt_step q hlt hq3
      by_cases h0 : q &&& (q - 1) = 0
      · have hz' := Lib.hid (hz h0)
        have hb0 : (((q &&& (q - 1) : Nat) : Int) == 0) = true := by rw [h0]; rfl
        clear hz hnz h0
        gi_wp2
        go_roundw
        case rel => exact ⟨pre, q + 1, by omega, by omega, by rw [hz'.out]; exact hpre, by rw [hz'.out], by go_num, hJ⟩
        case measure => simp [intOf]; omega
      · obtain ⟨hc1, hc2, hc3⟩ := hnz h0
        have hb0 : (((q &&& (q - 1) : Nat) : Int) == 0) = false := by simp; exact h0
        have hlen : pre.length = cntp q := by have := congrArg List.length hpre; simpa using this
        obtain ⟨fn, tmps, assign, body, hy, hR⟩ := hY pre ⟨cntp q, hc1⟩ wr hJ (by omega)
        dsimp only [encs] at hy
        rw [hc2] at hy
        have H3 := Lib.hid hc3
        have H2 := Lib.hid hlen
        clear hz hnz h0 hc2 hc3 hlen
        gi_wp2
        refine hR.mono ?_
        rintro e W' (⟨rfl, hJ', _⟩ | ⟨rfl, hJx'⟩)
        · gi_wp2
          go_roundw
          case rel =>
            refine ⟨pre ++ [⟨cntp q, hc1⟩], q + 1, by omega, by omega, ?_, ?_, by go_num, hJ'⟩
            · rw [H3.out, List.range_succ, List.map_append, hpre]; rfl
            · rw [H3.out]; go_num
          case measure => simp [intOf]; omega
        · gi_wp2
          refine bodyPost_ret (results_none rfl _ _ _) rfl ?_
          exact ⟨⟨_, rfl⟩, .inr ⟨_, trivial, hJx'⟩⟩
    · obtain rfl : q = 64 := by omega
      gi_wp2
      go_end0
      exact ⟨⟨_, rfl⟩, .inl ⟨pre, by rw [hpre, cnt_last.1], hJ⟩⟩
end Ham
end Go.Proofs.YtpigonlbdleaeaaDoor
