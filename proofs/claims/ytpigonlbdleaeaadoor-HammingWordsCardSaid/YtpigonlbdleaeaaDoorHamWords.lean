/- The walk of the law HammingWords. -/
import Derived.Test.YtpigonlbdleaeaaDoorHamCorr
namespace Go.Proofs.YtpigonlbdleaeaaDoor
open Go.RowKit
namespace Ham
/-- How many of the first k positions lead to a code word. -/
def cntF (w : Nat) : Nat → Nat
  | 0 => 0
  | k + 1 => cntF w k + if check (flip w k) = 0 then 1 else 0
theorem cntF_le (w : Nat) : ∀ k, cntF w k ≤ k
  | 0 => by simp [cntF]
  | k + 1 => by
    have := cntF_le w k
    rw [cntF]
    split <;> omega
theorem flip_check {w i : Nat} (hi : i < 64) : check (flip w i) = 0 ↔ check w = 1 ∧ i = syn w := by
  rw [check_code, flip_code hi, check_odd]
theorem cntF_none (w : Nat) (h : check w ≠ 1) : ∀ k, k ≤ 64 → cntF w k = 0
  | 0, _ => rfl
  | k + 1, hk => by
    rw [cntF, cntF_none w h k (by omega), if_neg (fun hc => h ((flip_check (by omega)).1 hc).1)]
theorem cntF_one (w : Nat) (h : check w = 1) : ∀ k, k ≤ 64 → cntF w k = if syn w < k then 1 else 0
  | 0, _ => by simp [cntF]
  | k + 1, hk => by
    rw [cntF, cntF_one w h k (by omega)]
    by_cases hs : k = syn w
    · rw [if_neg (by omega), if_pos ((flip_check (by omega)).2 ⟨h, hs⟩), if_pos (by omega)]
    · rw [if_neg (fun hc => hs ((flip_check (by omega)).1 hc).2)]
      by_cases hl : syn w < k
      · rw [if_pos hl, if_pos (by omega)]
      · rw [if_neg hl, if_neg (by omega)]
theorem cntF_all (w : Nat) (h : check w = 1) : cntF w 64 = 1 := by rw [cntF_one w h 64 (by omega), if_pos (syn_lt w)]
theorem data_lt' (w : Nat) : data w < 144115188075855872 := data_lt w
theorem enc_data' {w : Nat} (hw : w < 18446744073709551616) (hc : check w = 0) : enc (data w) = w := enc_data hw (check_code.1 hc)
set_option maxRecDepth 100000 in
set_option maxHeartbeats 4000000 in
theorem words0_calls (x : Nat) (hx : x < 18446744073709551616) (hc : check x = 0) (w : World) (hT : GTab w) :
    Calls Tryd.prog 8 #[.int .u64 x] w fun e w' => e = .returned (.bool true) ∧ Below w.heap.size w w' := by
  have HN : Hid (cntF x 64 = 0) := Lib.hid (cntF_none x (by omega) 64 (by omega))
  have HC := Lib.hid (fun w hT => check_at _ 0 x hx rfl (by rw [hc]; rfl) w hT)
  have HD := Lib.hid (fun w hT => dec_at _ (data x) 0 0 x hx rfl (by rw [decD, if_pos hc]) (by rw [decN, hc]; rfl) (by rw [decE, hc]; rfl) w hT)
  have HE := Lib.hid (fun w hT => enc_at _ x 0 (data x) rfl (by rw [encW, if_pos (data_lt' x), enc_data' hx hc]) (by rw [encE, if_pos (data_lt' x)]; rfl) w hT)
  clear hc
  go_enter Tryd.func8, Tryd.ntmps8
  go_wp2_with fail
  refine (examples_calls _ hT).mono ?_
  rintro e w1 ⟨rfl, hb1⟩
  have hT1 := hT.below hb1
  go_wp2_with fail
  go_loop [4, 5] (fun n i => ∃ k : Nat, k ≤ 64 ∧ n = .int .i64 (cntF x k) ∧ i = .int .i64 k) (fun _ i => 64 - (intOf i).toNat)
  case atStart => exact ⟨0, by omega, rfl, rfl⟩
  case round =>
    obtain ⟨k, hk, rfl, rfl⟩ := hrel
    have hcl := cntF_le x k
    by_cases hlt : k < 64
    · have hfl := flip_lt' hx hlt
      have HFc := Lib.hid (fun w hT => check_at _ _ (flip x k) hfl rfl rfl w hT)
      have HST : Hid (cntF x (k + 1) = cntF x k + if check (flip x k) = 0 then 1 else 0) := Lib.hid rfl
      by_cases hz : check (flip x k) = 0
      · have hz1 : ((check (flip x k) : Int) == 0) = true := by simp [hz]
        have HZ := Lib.hid hz
        clear hz
        go_wp2_with (first | (go_at_call 13; refine (flip_in x k hx hlt _).mono ?_; rintro e w' ⟨rfl, rfl⟩) | (go_at_call 17; refine (HFc.out _ hT1).mono ?_; rintro e w' ⟨rfl, rfl⟩))
        go_round
        case rel => exact ⟨k + 1, by omega, by rw [HST.out, if_pos HZ.out]; go_num, by go_num⟩
        case measure => simp [intOf]; omega
      · have hz1 : ((check (flip x k) : Int) == 0) = false := by simp [hz]
        have HZ := Lib.hid hz
        clear hz
        go_wp2_with (first | (go_at_call 13; refine (flip_in x k hx hlt _).mono ?_; rintro e w' ⟨rfl, rfl⟩) | (go_at_call 17; refine (HFc.out _ hT1).mono ?_; rintro e w' ⟨rfl, rfl⟩))
        go_round
        case rel => exact ⟨k + 1, by omega, by rw [HST.out, if_neg HZ.out, Nat.add_zero], by go_num⟩
        case measure => simp [intOf]; omega
    · obtain rfl : k = 64 := by omega
      have HN' := HN.out
      generalize cntF x 64 = c at HN' hcl
      subst HN'
      go_wp2_with fail
      refine (HD.out _ hT1).mono ?_
      rintro e w2 ⟨rfl, hb2⟩
      have hT2 := hT1.below hb2
      have hT3 := hT2.below (balloc w2 (.cells #[.int .u64 (data x), .int .i64 0, .int .i64 0] 35))
      go_wp2_with fail
      refine (HE.out _ hT3).mono ?_
      rintro e w3 ⟨rfl, hb3⟩
      have q0 : w3.cell? ⟨w2.heap.size, 0, none⟩ = some (.int .u64 (data x)) := (hb3.cell (p := ⟨w2.heap.size, 0, none⟩) (by simp)).trans (by simp [go_sem])
      have q1 : w3.cell? ⟨w2.heap.size, 1, none⟩ = some (.int .i64 0) := (hb3.cell (p := ⟨w2.heap.size, 1, none⟩) (by simp)).trans (by simp [go_sem])
      have q2 : w3.cell? ⟨w2.heap.size, 2, none⟩ = some (.int .i64 0) := (hb3.cell (p := ⟨w2.heap.size, 2, none⟩) (by simp)).trans (by simp [go_sem])
      have hs : w2.heap.size < w3.heap.size := by have := hb3.size; simp at this; omega
      have hT4 := (hT3.below hb3).below (balloc w3 (.cells #[.int .u64 x, .int .i64 0] 27))
      go_wp2_with fail
      refine (HC.out _ hT4).mono ?_
      rintro e w' ⟨rfl, rfl⟩
      go_wp2_with fail
      go_ret
      exact ⟨rfl, bb hb1 (bb hb2 (bb (balloc _ _) (bb hb3 (balloc _ _))))⟩
set_option maxRecDepth 100000 in
set_option maxHeartbeats 4000000 in
theorem words1_calls (x : Nat) (hx : x < 18446744073709551616) (hc : check x = 1) (w : World) (hT : GTab w) :
    Calls Tryd.prog 8 #[.int .u64 x] w fun e w' => e = .returned (.bool true) ∧ Below w.heap.size w w' := by
  have HN : Hid (cntF x 64 = 1) := Lib.hid (cntF_all x hc)
  have hf : check (flip x (syn x)) = 0 := (flip_check (syn_lt x)).2 ⟨hc, rfl⟩
  have HS := Lib.hid (fun w => dist_at 1 (flip x (syn x)) x (flip_lt' hx (syn_lt x)) hx (by rw [ones_flip_self (syn_lt x)]; rfl) w)
  have HC := Lib.hid (fun w hT => check_at _ 1 x hx rfl (by rw [hc]; rfl) w hT)
  have HD := Lib.hid (fun w hT => dec_at _ (data (flip x (syn x))) 1 0 x hx rfl (by rw [decD, if_neg (by omega), if_pos hc]) (by rw [decN, hc]; rfl) (by rw [decE, hc]; rfl) w hT)
  have HE := Lib.hid (fun w hT => enc_at _ (flip x (syn x)) 0 (data (flip x (syn x))) rfl (by rw [encW, if_pos (data_lt' _), enc_data' (flip_lt' hx (syn_lt x)) hf]) (by rw [encE, if_pos (data_lt' _)]; rfl) w hT)
  clear hc hf
  generalize flip x (syn x) = z at HD HE HS
  go_enter Tryd.func8, Tryd.ntmps8
  go_wp2_with fail
  refine (examples_calls _ hT).mono ?_
  rintro e w1 ⟨rfl, hb1⟩
  have hT1 := hT.below hb1
  go_wp2_with fail
  go_loop [4, 5] (fun n i => ∃ k : Nat, k ≤ 64 ∧ n = .int .i64 (cntF x k) ∧ i = .int .i64 k) (fun _ i => 64 - (intOf i).toNat)
  case atStart => exact ⟨0, by omega, rfl, rfl⟩
  case round =>
    obtain ⟨k, hk, rfl, rfl⟩ := hrel
    have hcl := cntF_le x k
    by_cases hlt : k < 64
    · have hfl := flip_lt' hx hlt
      have HFc := Lib.hid (fun w hT => check_at _ _ (flip x k) hfl rfl rfl w hT)
      have HST : Hid (cntF x (k + 1) = cntF x k + if check (flip x k) = 0 then 1 else 0) := Lib.hid rfl
      by_cases hz : check (flip x k) = 0
      · have hz1 : ((check (flip x k) : Int) == 0) = true := by simp [hz]
        have HZ := Lib.hid hz
        clear hz
        go_wp2_with (first | (go_at_call 13; refine (flip_in x k hx hlt _).mono ?_; rintro e w' ⟨rfl, rfl⟩) | (go_at_call 17; refine (HFc.out _ hT1).mono ?_; rintro e w' ⟨rfl, rfl⟩))
        go_round
        case rel => exact ⟨k + 1, by omega, by rw [HST.out, if_pos HZ.out]; go_num, by go_num⟩
        case measure => simp [intOf]; omega
      · have hz1 : ((check (flip x k) : Int) == 0) = false := by simp [hz]
        have HZ := Lib.hid hz
        clear hz
        go_wp2_with (first | (go_at_call 13; refine (flip_in x k hx hlt _).mono ?_; rintro e w' ⟨rfl, rfl⟩) | (go_at_call 17; refine (HFc.out _ hT1).mono ?_; rintro e w' ⟨rfl, rfl⟩))
        go_round
        case rel => exact ⟨k + 1, by omega, by rw [HST.out, if_neg HZ.out, Nat.add_zero], by go_num⟩
        case measure => simp [intOf]; omega
    · obtain rfl : k = 64 := by omega
      have HN' := HN.out
      generalize cntF x 64 = c at HN' hcl
      subst HN'
      go_wp2_with fail
      refine (HD.out _ hT1).mono ?_
      rintro e w2 ⟨rfl, hb2⟩
      have hT2 := hT1.below hb2
      have hT3 := hT2.below (balloc w2 (.cells #[.int .u64 (data z), .int .i64 1, .int .i64 0] 35))
      go_wp2_with fail
      refine (HE.out _ hT3).mono ?_
      rintro e w3 ⟨rfl, hb3⟩
      have q0 : w3.cell? ⟨w2.heap.size, 0, none⟩ = some (.int .u64 (data z)) := (hb3.cell (p := ⟨w2.heap.size, 0, none⟩) (by simp)).trans (by simp [go_sem])
      have q1 : w3.cell? ⟨w2.heap.size, 1, none⟩ = some (.int .i64 1) := (hb3.cell (p := ⟨w2.heap.size, 1, none⟩) (by simp)).trans (by simp [go_sem])
      have q2 : w3.cell? ⟨w2.heap.size, 2, none⟩ = some (.int .i64 0) := (hb3.cell (p := ⟨w2.heap.size, 2, none⟩) (by simp)).trans (by simp [go_sem])
      have hs : w2.heap.size < w3.heap.size := by have := hb3.size; simp at this; omega
      have hT4 := (hT3.below hb3).below (balloc w3 (.cells #[.int .u64 z, .int .i64 0] 27))
      go_wp2_with fail
      refine (HC.out _ hT4).mono ?_
      rintro e w' ⟨rfl, rfl⟩
      go_wp2_with (go_at_call 15; refine (HS.out _).mono ?_; rintro e w' ⟨rfl, rfl⟩)
      go_ret
      exact ⟨rfl, bb hb1 (bb hb2 (bb (balloc _ _) (bb hb3 (balloc _ _))))⟩
set_option maxRecDepth 100000 in
set_option maxHeartbeats 4000000 in
theorem words2_calls (x : Nat) (hx : x < 18446744073709551616) (hc : check x = 2) (w : World) (hT : GTab w) :
    Calls Tryd.prog 8 #[.int .u64 x] w fun e w' => e = .returned (.bool true) ∧ Below w.heap.size w w' := by
  have HN : Hid (cntF x 64 = 0) := Lib.hid (cntF_none x (by omega) 64 (by omega))
  have HC := Lib.hid (fun w hT => check_at _ 2 x hx rfl (by rw [hc]; rfl) w hT)
  have HD := Lib.hid (fun w hT => dec_at _ 0 0 6 x hx rfl (by rw [decD, if_neg (by omega), if_neg (by omega)]; rfl) (by rw [decN, hc]; rfl) (by rw [decE, hc]; rfl) w hT)
  have HE := Lib.hid (fun w hT => enc_at 0 0 0 0 rfl (by decide +kernel) (by decide +kernel) w hT)
  clear hc
  go_enter Tryd.func8, Tryd.ntmps8
  go_wp2_with fail
  refine (examples_calls _ hT).mono ?_
  rintro e w1 ⟨rfl, hb1⟩
  have hT1 := hT.below hb1
  go_wp2_with fail
  go_loop [4, 5] (fun n i => ∃ k : Nat, k ≤ 64 ∧ n = .int .i64 (cntF x k) ∧ i = .int .i64 k) (fun _ i => 64 - (intOf i).toNat)
  case atStart => exact ⟨0, by omega, rfl, rfl⟩
  case round =>
    obtain ⟨k, hk, rfl, rfl⟩ := hrel
    have hcl := cntF_le x k
    by_cases hlt : k < 64
    · have hfl := flip_lt' hx hlt
      have HFc := Lib.hid (fun w hT => check_at _ _ (flip x k) hfl rfl rfl w hT)
      have HST : Hid (cntF x (k + 1) = cntF x k + if check (flip x k) = 0 then 1 else 0) := Lib.hid rfl
      by_cases hz : check (flip x k) = 0
      · have hz1 : ((check (flip x k) : Int) == 0) = true := by simp [hz]
        have HZ := Lib.hid hz
        clear hz
        go_wp2_with (first | (go_at_call 13; refine (flip_in x k hx hlt _).mono ?_; rintro e w' ⟨rfl, rfl⟩) | (go_at_call 17; refine (HFc.out _ hT1).mono ?_; rintro e w' ⟨rfl, rfl⟩))
        go_round
        case rel => exact ⟨k + 1, by omega, by rw [HST.out, if_pos HZ.out]; go_num, by go_num⟩
        case measure => simp [intOf]; omega
      · have hz1 : ((check (flip x k) : Int) == 0) = false := by simp [hz]
        have HZ := Lib.hid hz
        clear hz
        go_wp2_with (first | (go_at_call 13; refine (flip_in x k hx hlt _).mono ?_; rintro e w' ⟨rfl, rfl⟩) | (go_at_call 17; refine (HFc.out _ hT1).mono ?_; rintro e w' ⟨rfl, rfl⟩))
        go_round
        case rel => exact ⟨k + 1, by omega, by rw [HST.out, if_neg HZ.out, Nat.add_zero], by go_num⟩
        case measure => simp [intOf]; omega
    · obtain rfl : k = 64 := by omega
      have HN' := HN.out
      generalize cntF x 64 = c at HN' hcl
      subst HN'
      go_wp2_with fail
      refine (HD.out _ hT1).mono ?_
      rintro e w2 ⟨rfl, hb2⟩
      have hT2 := hT1.below hb2
      have hT3 := hT2.below (balloc w2 (.cells #[.int .u64 0, .int .i64 0, .int .i64 6] 35))
      go_wp2_with fail
      refine (HE.out _ hT3).mono ?_
      rintro e w3 ⟨rfl, hb3⟩
      have q0 : w3.cell? ⟨w2.heap.size, 0, none⟩ = some (.int .u64 0) := (hb3.cell (p := ⟨w2.heap.size, 0, none⟩) (by simp)).trans (by simp [go_sem])
      have q1 : w3.cell? ⟨w2.heap.size, 1, none⟩ = some (.int .i64 0) := (hb3.cell (p := ⟨w2.heap.size, 1, none⟩) (by simp)).trans (by simp [go_sem])
      have q2 : w3.cell? ⟨w2.heap.size, 2, none⟩ = some (.int .i64 6) := (hb3.cell (p := ⟨w2.heap.size, 2, none⟩) (by simp)).trans (by simp [go_sem])
      have hs : w2.heap.size < w3.heap.size := by have := hb3.size; simp at this; omega
      have hT4 := (hT3.below hb3).below (balloc w3 (.cells #[.int .u64 0, .int .i64 0] 27))
      go_wp2_with fail
      refine (HC.out _ hT4).mono ?_
      rintro e w' ⟨rfl, rfl⟩
      go_wp2_with fail
      go_ret
      exact ⟨rfl, bb hb1 (bb hb2 (bb (balloc _ _) (bb hb3 (balloc _ _))))⟩
theorem words_law (a : Int) (ha : (Lit.int .u64 a).wf = true) (w : World) (hT : GTab w) :
    Calls Tryd.prog 8 #[.int .u64 a] w fun e w' => e = .returned (.bool true) ∧ Below w.heap.size w w' := by
  obtain ⟨x, rfl, hx⟩ := of_wf ha
  have hle := check_le x
  rcases (show check x = 0 ∨ check x = 1 ∨ check x = 2 by omega) with h | h | h
  · exact words0_calls x hx h w hT
  · exact words1_calls x hx h w hT
  · exact words2_calls x hx h w hT
end Ham
end Go.Proofs.YtpigonlbdleaeaaDoor
