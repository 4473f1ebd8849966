/- The walk of the law HammingMatchesReference. -/
import Derived.Test.YtpigonlbdleaeaaDoorHamRefE
import Derived.Laws.BitsAllLaws
namespace Go.Proofs.YtpigonlbdleaeaaDoor
open Go.RowKit
namespace Ham
theorem flip_both (x : Nat) (i : Int) (hx : x < 18446744073709551616) : ∃ v : Nat, v < 18446744073709551616 ∧
    (∀ w, Calls Tryd.prog 13 #[.int .u64 x, .int .i64 i] w fun e w' => e = .returned (.int .u64 v) ∧ w' = w) ∧
    (∀ w, Calls Tryd.prog 14 #[.int .u64 x, .int .i64 i] w fun e w' => e = .returned (.int .u64 v) ∧ w' = w) := by
  by_cases hi : i < 0 ∨ 63 < i
  · exact ⟨x, hx, fun w => flip_out x i hi w, fun w => rflip_out x i hi w⟩
  · obtain ⟨k, rfl⟩ : ∃ k : Nat, i = k := ⟨i.toNat, by omega⟩
    exact ⟨flip x k, flip_lt' hx (by omega), fun w => flip_in x k hx (by omega) w, fun w => rflip_in x k hx (by omega) w⟩
theorem low_bits (o y : Nat) (ho : o < 18446744073709551616) (hy : y < 18446744073709551616) : ∃ m : Nat, m < 18446744073709551616 ∧
    bits .xor .u64 (o : Int) (bits .andNot .u64 (y : Int) (IntKind.u64.wrap ((y : Int) - 1))) = m := by
  obtain ⟨z, hz, e⟩ : ∃ z : Nat, z < 18446744073709551616 ∧ IntKind.u64.wrap ((y : Int) - 1) = z := by
    rw [IntKind.wrap_u64]
    exact ⟨(((y : Int) - 1) % 18446744073709551616).toNat, by omega, by omega⟩
  rw [e, u64_andNot_nat y z hy hz]
  have ha : y &&& (18446744073709551615 - z) < 18446744073709551616 := Nat.lt_of_le_of_lt Nat.and_le_left hy
  rw [bits_xor_u64_nat _ _ ho ha]
  exact ⟨_, xor_lt' ho ha, rfl⟩
theorem field_word (n e : Int) (w : World) : Sem.run Tryd.prog (Instr.field 27 (.agg #[.int .u64 n, .int .i64 e]) 0) w = .ok (.int .u64 n) w := by
  simp [Instr.field, go_sem, asAgg]
attribute [local go_sem] field_word
set_option maxRecDepth 100000 in
set_option maxHeartbeats 4000000 in
theorem match_calls (d x y : Nat) (i : Int) (hd : d < 18446744073709551616) (hx : x < 18446744073709551616) (hy : y < 18446744073709551616) (w : World) (hT : GTab w) :
    Calls Tryd.prog 3 #[.int .u64 d, .agg #[.int .u64 x, .int .u64 y], .int .i64 i] w fun e w' => e = .returned (.bool true) ∧ Below w.heap.size w w' := by
  obtain ⟨fv, hfv, hf1, hf2⟩ := flip_both x i hx
  obtain ⟨own, hown, -, ho2⟩ := flip_both (enc (cut d)) i (enc_lt' _)
  obtain ⟨m, hm, hmv⟩ := low_bits own y hown hy
  have HE1 := Lib.hid (fun w hT => encoded_calls d w hT)
  have HE2 := Lib.hid (fun w => rencode_calls d w)
  have HE3 := Lib.hid (fun w hT => enc_cut_calls d w hT)
  have HE4 := Lib.hid (fun w => rencode_small (cut d) (cut_lt d) w)
  have HF1 := Lib.hid hf1
  have HF2 := Lib.hid hf2
  have HF3 := Lib.hid ho2
  have HD1 := Lib.hid (fun w => distance_calls x y hx hy w)
  have HD2 := Lib.hid (fun w => rdist_calls x y hx hy w)
  clear hf1 hf2 ho2
  generalize encW d = ew at HE1 HE2
  generalize encE d = ee at HE1 HE2
  go_enter Tryd.func3, Tryd.ntmps3
  have hT0 := hT.below (balloc w (.cells #[.int .u64 x, .int .u64 y] 23))
  go_wp2_with fail
  refine (examples_calls _ hT0).mono ?_
  rintro e w1 ⟨rfl, hb1⟩
  have hT1 := hT0.below hb1
  have hB1 := bb (balloc w _) hb1
  have q0 : w1.cell? ⟨w.heap.size, 0, none⟩ = some (.int .u64 x) := (hb1.cell (p := ⟨w.heap.size, 0, none⟩) (by simp)).trans (by simp [go_sem])
  have q1 : w1.cell? ⟨w.heap.size, 1, none⟩ = some (.int .u64 y) := (hb1.cell (p := ⟨w.heap.size, 1, none⟩) (by simp)).trans (by simp [go_sem])
  have hz : w.heap.size < w1.heap.size := by have := hb1.size; simp at this; omega
  go_wp2_with fail
  have q0d : w1.drew.cell? ⟨w.heap.size, 0, none⟩ = some (.int .u64 x) := q0
  have q1d : w1.drew.cell? ⟨w.heap.size, 1, none⟩ = some (.int .u64 y) := q1
  have hTd : GTab w1.drew := ⟨hT1.at_⟩
  have hBd := bb hB1 (bdrew _)
  have hzd : w.heap.size < w1.drew.heap.size := hz
  go_region_held3 (fun w' => w'.cell? ⟨w.heap.size, 0, none⟩ = some (.int .u64 x) ∧ w'.cell? ⟨w.heap.size, 1, none⟩ = some (.int .u64 y) ∧ GTab w' ∧ Below w.heap.size w w' ∧ w.heap.size < w'.heap.size)
    (first | exact ⟨by assumption, by assumption, by assumption, by assumption, by assumption⟩)
    (first
      | (go_at_call 10; (with_reducible refine (HE1.out _ (by assumption)).mono ?_); rintro e w4 ⟨rfl, hb4⟩; have hc0 := (hb4.cell (p := ⟨w.heap.size, 0, none⟩) (by assumption)).trans (by assumption); have hc1 := (hb4.cell (p := ⟨w.heap.size, 1, none⟩) (by assumption)).trans (by assumption); have hT4 := GTab.below (by assumption) hb4; have hB4 := bb (by assumption) hb4; have hs4 := Nat.lt_of_lt_of_le (show w.heap.size < _ by assumption) hb4.size)
      | (go_at_call 10; (with_reducible refine (HE3.out _ (by assumption)).mono ?_); rintro e w4 ⟨rfl, hb4⟩; have hc0 := (hb4.cell (p := ⟨w.heap.size, 0, none⟩) (by assumption)).trans (by assumption); have hc1 := (hb4.cell (p := ⟨w.heap.size, 1, none⟩) (by assumption)).trans (by assumption); have hT4 := GTab.below (by assumption) hb4; have hB4 := bb (by assumption) hb4; have hs4 := Nat.lt_of_lt_of_le (show w.heap.size < _ by assumption) hb4.size)
      | (go_at_call 11; (with_reducible refine (HE2.out _).mono ?_); rintro e w4 ⟨rfl, hb4⟩; have hc0 := (hb4.cell (p := ⟨w.heap.size, 0, none⟩) (by assumption)).trans (by assumption); have hc1 := (hb4.cell (p := ⟨w.heap.size, 1, none⟩) (by assumption)).trans (by assumption); have hT4 := GTab.below (by assumption) hb4; have hB4 := bb (by assumption) hb4; have hs4 := Nat.lt_of_lt_of_le (show w.heap.size < _ by assumption) hb4.size)
      | (go_at_call 11; (with_reducible refine (HE4.out _).mono ?_); rintro e w4 ⟨rfl, hb4⟩; have hc0 := (hb4.cell (p := ⟨w.heap.size, 0, none⟩) (by assumption)).trans (by assumption); have hc1 := (hb4.cell (p := ⟨w.heap.size, 1, none⟩) (by assumption)).trans (by assumption); have hT4 := GTab.below (by assumption) hb4; have hB4 := bb (by assumption) hb4; have hs4 := Nat.lt_of_lt_of_le (show w.heap.size < _ by assumption) hb4.size)
      | (go_at_call 12; (with_reducible refine (cutc_calls _ hd _).mono ?_); rintro e w' ⟨rfl, rfl⟩)
      | (go_at_call 13; (with_reducible refine (HF1.out _).mono ?_); rintro e w' ⟨rfl, rfl⟩)
      | (go_at_call 14; (with_reducible refine (HF2.out _).mono ?_); rintro e w' ⟨rfl, rfl⟩)
      | (go_at_call 15; (with_reducible refine (HD1.out _).mono ?_); rintro e w' ⟨rfl, rfl⟩)
      | (go_at_call 16; (with_reducible refine (HD2.out _).mono ?_); rintro e w' ⟨rfl, rfl⟩))
  go_wp2_with fail
  refine (cutc_calls _ hd _).mono ?_
  rintro e w5 ⟨rfl, rfl⟩
  go_wp2_with fail
  refine (HE4.out _).mono ?_
  rintro e w6 ⟨rfl, hb6⟩
  have r0 : w6.cell? ⟨w.heap.size, 0, none⟩ = some (.int .u64 x) := (hb6.cell (p := ⟨w.heap.size, 0, none⟩) (by assumption)).trans (by assumption)
  have r1 : w6.cell? ⟨w.heap.size, 1, none⟩ = some (.int .u64 y) := (hb6.cell (p := ⟨w.heap.size, 1, none⟩) (by assumption)).trans (by assumption)
  have hT6 : GTab w6 := GTab.below (by assumption) hb6
  have hB6 : Below w.heap.size w w6 := bb (by assumption) hb6
  go_wp2_with fail
  refine (HF3.out _).mono ?_
  rintro e w7 ⟨rfl, rfl⟩
  go_wp2_with fail
  have hs8 : w7.heap.size < (w7.alloc (.cells #[.int .u64 x, .int .u64 own, .int .u64 m] 22)).heap.size := by simp
  go_loopw [10] (fun i wr => ∃ k : Nat, k ≤ 3 ∧ i = .int .i64 k ∧ wr.cell? ⟨w7.heap.size, 0, none⟩ = some (.int .u64 x) ∧ wr.cell? ⟨w7.heap.size, 1, none⟩ = some (.int .u64 own) ∧ wr.cell? ⟨w7.heap.size, 2, none⟩ = some (.int .u64 m) ∧ GTab wr ∧ Below w.heap.size w wr ∧ w7.heap.size < wr.heap.size) (fun i _ => 3 - (intOf i).toNat)
  case atStart => exact ⟨0, by omega, rfl, by simp [go_sem], by simp [go_sem], by simp [go_sem], hT6.below (balloc _ _), bb hB6 (balloc _ _), hs8⟩
  case round =>
    obtain ⟨k, hk, rfl, c0, c1, c2, hTr, hBr, hsr⟩ := hrel
    rcases (show k = 0 ∨ k = 1 ∨ k = 2 ∨ k = 3 by omega) with rfl | rfl | rfl | rfl
    · have HC1 := Lib.hid (fun w hT => check_calls x hx w hT)
      have HC2 := Lib.hid (fun w => rcheck_calls x hx w)
      have HG1 := Lib.hid (fun w hT => decoded_calls x hx w hT)
      have HG2 := Lib.hid (fun w => rdecode_calls x hx w)
      generalize check x = ck at HC1 HC2
      generalize decD x = dd at HG1 HG2
      generalize decN x = dn at HG1 HG2
      generalize decE x = de at HG1 HG2
      go_wp2_with fail
      have d0 : wr.drew.cell? ⟨w7.heap.size, 0, none⟩ = some (.int .u64 x) := c0
      have d1 : wr.drew.cell? ⟨w7.heap.size, 1, none⟩ = some (.int .u64 own) := c1
      have d2 : wr.drew.cell? ⟨w7.heap.size, 2, none⟩ = some (.int .u64 m) := c2
      have hTd : GTab wr.drew := ⟨hTr.at_⟩
      have hBd := bb hBr (bdrew _)
      have hzd : w7.heap.size < wr.drew.heap.size := hsr
      go_region_held3 (fun w' => w'.cell? ⟨w7.heap.size, 0, none⟩ = some (.int .u64 x) ∧ w'.cell? ⟨w7.heap.size, 1, none⟩ = some (.int .u64 own) ∧ w'.cell? ⟨w7.heap.size, 2, none⟩ = some (.int .u64 m) ∧ GTab w' ∧ Below w.heap.size w w' ∧ w7.heap.size < w'.heap.size)
        (first | exact ⟨by assumption, by assumption, by assumption, by assumption, by assumption, by assumption⟩)
        (first
          | (go_at_call 19; (with_reducible refine (HG1.out _ (by assumption)).mono ?_); rintro e w4 ⟨rfl, hb4⟩; have hc0 := (hb4.cell (p := ⟨w7.heap.size, 0, none⟩) (by assumption)).trans (by assumption); have hc1 := (hb4.cell (p := ⟨w7.heap.size, 1, none⟩) (by assumption)).trans (by assumption); have hc2 := (hb4.cell (p := ⟨w7.heap.size, 2, none⟩) (by assumption)).trans (by assumption); have hT4 := GTab.below (by assumption) hb4; have hB4 := bb (by assumption) hb4; have hs4 := Nat.lt_of_lt_of_le (show w7.heap.size < _ by assumption) hb4.size)
          | (go_at_call 20; (with_reducible refine (HG2.out _).mono ?_); rintro e w4 ⟨rfl, hb4⟩; have hc0 := (hb4.cell (p := ⟨w7.heap.size, 0, none⟩) (by assumption)).trans (by assumption); have hc1 := (hb4.cell (p := ⟨w7.heap.size, 1, none⟩) (by assumption)).trans (by assumption); have hc2 := (hb4.cell (p := ⟨w7.heap.size, 2, none⟩) (by assumption)).trans (by assumption); have hT4 := GTab.below (by assumption) hb4; have hB4 := bb (by assumption) hb4; have hs4 := Nat.lt_of_lt_of_le (show w7.heap.size < _ by assumption) hb4.size)
          | (go_at_call 17; (with_reducible refine (HC1.out _ (by assumption)).mono ?_); rintro e w' ⟨rfl, rfl⟩)
          | (go_at_call 18; (with_reducible refine (HC2.out _).mono ?_); rintro e w' ⟨rfl, rfl⟩))
      go_wp2
      go_round
      case rel => exact ⟨1, by omega, rfl, by assumption, by assumption, by assumption, by assumption, by assumption, by assumption⟩
      case measure => simp [intOf]
    · have HC1 := Lib.hid (fun w hT => check_calls own hown w hT)
      have HC2 := Lib.hid (fun w => rcheck_calls own hown w)
      have HG1 := Lib.hid (fun w hT => decoded_calls own hown w hT)
      have HG2 := Lib.hid (fun w => rdecode_calls own hown w)
      generalize check own = ck at HC1 HC2
      generalize decD own = dd at HG1 HG2
      generalize decN own = dn at HG1 HG2
      generalize decE own = de at HG1 HG2
      go_wp2_with fail
      have d0 : wr.drew.cell? ⟨w7.heap.size, 0, none⟩ = some (.int .u64 x) := c0
      have d1 : wr.drew.cell? ⟨w7.heap.size, 1, none⟩ = some (.int .u64 own) := c1
      have d2 : wr.drew.cell? ⟨w7.heap.size, 2, none⟩ = some (.int .u64 m) := c2
      have hTd : GTab wr.drew := ⟨hTr.at_⟩
      have hBd := bb hBr (bdrew _)
      have hzd : w7.heap.size < wr.drew.heap.size := hsr
      go_region_held3 (fun w' => w'.cell? ⟨w7.heap.size, 0, none⟩ = some (.int .u64 x) ∧ w'.cell? ⟨w7.heap.size, 1, none⟩ = some (.int .u64 own) ∧ w'.cell? ⟨w7.heap.size, 2, none⟩ = some (.int .u64 m) ∧ GTab w' ∧ Below w.heap.size w w' ∧ w7.heap.size < w'.heap.size)
        (first | exact ⟨by assumption, by assumption, by assumption, by assumption, by assumption, by assumption⟩)
        (first
          | (go_at_call 19; (with_reducible refine (HG1.out _ (by assumption)).mono ?_); rintro e w4 ⟨rfl, hb4⟩; have hc0 := (hb4.cell (p := ⟨w7.heap.size, 0, none⟩) (by assumption)).trans (by assumption); have hc1 := (hb4.cell (p := ⟨w7.heap.size, 1, none⟩) (by assumption)).trans (by assumption); have hc2 := (hb4.cell (p := ⟨w7.heap.size, 2, none⟩) (by assumption)).trans (by assumption); have hT4 := GTab.below (by assumption) hb4; have hB4 := bb (by assumption) hb4; have hs4 := Nat.lt_of_lt_of_le (show w7.heap.size < _ by assumption) hb4.size)
          | (go_at_call 20; (with_reducible refine (HG2.out _).mono ?_); rintro e w4 ⟨rfl, hb4⟩; have hc0 := (hb4.cell (p := ⟨w7.heap.size, 0, none⟩) (by assumption)).trans (by assumption); have hc1 := (hb4.cell (p := ⟨w7.heap.size, 1, none⟩) (by assumption)).trans (by assumption); have hc2 := (hb4.cell (p := ⟨w7.heap.size, 2, none⟩) (by assumption)).trans (by assumption); have hT4 := GTab.below (by assumption) hb4; have hB4 := bb (by assumption) hb4; have hs4 := Nat.lt_of_lt_of_le (show w7.heap.size < _ by assumption) hb4.size)
          | (go_at_call 17; (with_reducible refine (HC1.out _ (by assumption)).mono ?_); rintro e w' ⟨rfl, rfl⟩)
          | (go_at_call 18; (with_reducible refine (HC2.out _).mono ?_); rintro e w' ⟨rfl, rfl⟩))
      go_wp2
      go_round
      case rel => exact ⟨2, by omega, rfl, by assumption, by assumption, by assumption, by assumption, by assumption, by assumption⟩
      case measure => simp [intOf]
    · have HC1 := Lib.hid (fun w hT => check_calls m hm w hT)
      have HC2 := Lib.hid (fun w => rcheck_calls m hm w)
      have HG1 := Lib.hid (fun w hT => decoded_calls m hm w hT)
      have HG2 := Lib.hid (fun w => rdecode_calls m hm w)
      generalize check m = ck at HC1 HC2
      generalize decD m = dd at HG1 HG2
      generalize decN m = dn at HG1 HG2
      generalize decE m = de at HG1 HG2
      go_wp2_with fail
      have d0 : wr.drew.cell? ⟨w7.heap.size, 0, none⟩ = some (.int .u64 x) := c0
      have d1 : wr.drew.cell? ⟨w7.heap.size, 1, none⟩ = some (.int .u64 own) := c1
      have d2 : wr.drew.cell? ⟨w7.heap.size, 2, none⟩ = some (.int .u64 m) := c2
      have hTd : GTab wr.drew := ⟨hTr.at_⟩
      have hBd := bb hBr (bdrew _)
      have hzd : w7.heap.size < wr.drew.heap.size := hsr
      go_region_held3 (fun w' => w'.cell? ⟨w7.heap.size, 0, none⟩ = some (.int .u64 x) ∧ w'.cell? ⟨w7.heap.size, 1, none⟩ = some (.int .u64 own) ∧ w'.cell? ⟨w7.heap.size, 2, none⟩ = some (.int .u64 m) ∧ GTab w' ∧ Below w.heap.size w w' ∧ w7.heap.size < w'.heap.size)
        (first | exact ⟨by assumption, by assumption, by assumption, by assumption, by assumption, by assumption⟩)
        (first
          | (go_at_call 19; (with_reducible refine (HG1.out _ (by assumption)).mono ?_); rintro e w4 ⟨rfl, hb4⟩; have hc0 := (hb4.cell (p := ⟨w7.heap.size, 0, none⟩) (by assumption)).trans (by assumption); have hc1 := (hb4.cell (p := ⟨w7.heap.size, 1, none⟩) (by assumption)).trans (by assumption); have hc2 := (hb4.cell (p := ⟨w7.heap.size, 2, none⟩) (by assumption)).trans (by assumption); have hT4 := GTab.below (by assumption) hb4; have hB4 := bb (by assumption) hb4; have hs4 := Nat.lt_of_lt_of_le (show w7.heap.size < _ by assumption) hb4.size)
          | (go_at_call 20; (with_reducible refine (HG2.out _).mono ?_); rintro e w4 ⟨rfl, hb4⟩; have hc0 := (hb4.cell (p := ⟨w7.heap.size, 0, none⟩) (by assumption)).trans (by assumption); have hc1 := (hb4.cell (p := ⟨w7.heap.size, 1, none⟩) (by assumption)).trans (by assumption); have hc2 := (hb4.cell (p := ⟨w7.heap.size, 2, none⟩) (by assumption)).trans (by assumption); have hT4 := GTab.below (by assumption) hb4; have hB4 := bb (by assumption) hb4; have hs4 := Nat.lt_of_lt_of_le (show w7.heap.size < _ by assumption) hb4.size)
          | (go_at_call 17; (with_reducible refine (HC1.out _ (by assumption)).mono ?_); rintro e w' ⟨rfl, rfl⟩)
          | (go_at_call 18; (with_reducible refine (HC2.out _).mono ?_); rintro e w' ⟨rfl, rfl⟩))
      go_wp2
      go_round
      case rel => exact ⟨3, by omega, rfl, by assumption, by assumption, by assumption, by assumption, by assumption, by assumption⟩
      case measure => simp [intOf]
    · go_wp2
      go_ret
      exact ⟨rfl, hBr⟩
theorem match_law (a : Int) (ha : (Lit.int .u64 a).wf = true) (b c : Int) (hb : (Lit.int .u64 b).wf = true) (hc : (Lit.int .u64 c).wf = true) (i : Int) (w : World) (hT : GTab w) :
    Calls Tryd.prog 3 #[.int .u64 a, .agg #[.int .u64 b, .int .u64 c], .int .i64 i] w fun e w' => e = .returned (.bool true) ∧ Below w.heap.size w w' := by
  obtain ⟨d, rfl, hd⟩ := of_wf ha
  obtain ⟨x, rfl, hx⟩ := of_wf hb
  obtain ⟨y, rfl, hy⟩ := of_wf hc
  exact match_calls d x y i hd hx hy w hT
end Ham
end Go.Proofs.YtpigonlbdleaeaaDoor
