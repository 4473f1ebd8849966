/- The walk of the law HammingDetects. -/
import Derived.Test.YtpigonlbdleaeaaDoorHamCorr
namespace Go.Proofs.YtpigonlbdleaeaaDoor
open Go.RowKit
namespace Ham
theorem check_two_flips {e a b : Nat} (he : check e = 0) (ha : a < 64) (hb : b < 64) (hne : a ≠ b) : check (flip (flip e a) b) = 2 := by
  rw [check_two, flip_ones hb, flip_syn hb, flip_syn ha]
  have h1 := flip_ones (w := e) ha
  have h2 := check_code.1 he
  refine ⟨by have := h2.2; omega, ?_⟩
  rw [h2.1, Nat.zero_xor]
  intro h
  exact hne (xor_eq_zero h)
theorem ones_two_flips {e a b : Nat} (ha : a < 64) (hb : b < 64) (hne : a ≠ b) : ones (flip (flip e a) b ^^^ e) = 2 := by
  have : flip (flip e a) b ^^^ e = 2 ^ a ^^^ 2 ^ b := by
    simp only [flip]
    rw [Nat.xor_comm _ e, ← Nat.xor_assoc, ← Nat.xor_assoc, Nat.xor_self, Nat.zero_xor]
  rw [this]
  exact ones_two_pow a ha b hb hne
set_option maxRecDepth 100000 in
set_option maxHeartbeats 4000000 in
theorem det_calls (d i j : Nat) (hd : d < 18446744073709551616) (hi : i < 256) (hj : j < 256) (w : World) (hT : GTab w) :
    Calls Tryd.prog 6 #[.int .u64 d, .int .u8 i, .int .u8 j] w fun e w' => e = .returned (.bool true) ∧ Below w.heap.size w w' := by
  obtain ⟨a, ha, hai⟩ : ∃ k : Nat, k < 64 ∧ k = i % 64 := ⟨i % 64, Nat.mod_lt _ (by decide), rfl⟩
  obtain ⟨b, hb, hbj⟩ : ∃ k : Nat, k < 64 ∧ k = j % 64 := ⟨j % 64, Nat.mod_lt _ (by decide), rfl⟩
  have he := check_enc (cut d)
  have hlt := enc_lt' (cut d)
  have hol : flip (enc (cut d)) a < 18446744073709551616 := flip_lt' hlt ha
  have hol2 : flip (flip (enc (cut d)) a) b < 18446744073709551616 := flip_lt' hol hb
  have HF1 := Lib.hid (fun w => flip_at ((i : Int) % 64) _ (enc (cut d)) a hlt ha (by omega) rfl w)
  have HF2 := Lib.hid (fun w => flip_at ((j : Int) % 64) _ (flip (enc (cut d)) a) b hol hb (by omega) rfl w)
  by_cases hab : a = b
  · have t1 : ((i : Int) % 64 == (j : Int) % 64) = true := by simp; omega
    have HO : Hid (flip (flip (enc (cut d)) a) b = enc (cut d)) := Lib.hid (by rw [hab, flip_flip])
    clear hai hbj ha hb hab he hlt hol hol2
    generalize flip (enc (cut d)) a = o1 at HF1 HF2 HO
    have HF2' : Hid (∀ w, Calls Tryd.prog 13 #[.int .u64 o1, .int .i64 ((j : Int) % 64)] w fun e w' => e = .returned (.int .u64 (enc (cut d))) ∧ w' = w) := Lib.hid (by
      have := HF2.out
      rw [HO.out] at this
      exact this)
    clear HF2 HO
    go_enter Tryd.func6, Tryd.ntmps6
    go_wp2_with fail
    refine (examples_calls _ hT).mono ?_
    rintro e w1 ⟨rfl, hb1⟩
    have hT1 := hT.below hb1
    go_wp2_with fail
    refine (cutc_calls _ hd _).mono ?_
    rintro e w' ⟨rfl, rfl⟩
    go_wp2_with fail
    refine (enc_cut_calls d _ hT1).mono ?_
    rintro e w2 ⟨rfl, hb2⟩
    go_wp2_with fail
    refine (HF1.out _).mono ?_
    rintro e w' ⟨rfl, rfl⟩
    go_wp2_with fail
    refine (HF2'.out _).mono ?_
    rintro e w' ⟨rfl, rfl⟩
    go_wp2_with fail
    go_ret
    exact ⟨rfl, bb hb1 (bb hb2 (balloc _ _))⟩
  · have t1 : ((i : Int) % 64 == (j : Int) % 64) = false := by simp; omega
    have HC := Lib.hid (fun w hT => check_at _ 2 (flip (flip (enc (cut d)) a) b) hol2 rfl (by rw [check_two_flips he ha hb hab]; rfl) w hT)
    have HD := Lib.hid (fun w hT => dec_at _ 0 0 6 (flip (flip (enc (cut d)) a) b) hol2 rfl
      (by rw [decD, check_two_flips he ha hb hab]; rfl) (by rw [decN, check_two_flips he ha hb hab]; rfl) (by rw [decE, check_two_flips he ha hb hab]; rfl) w hT)
    have HS := Lib.hid (fun w => dist_at 2 (flip (flip (enc (cut d)) a) b) (enc (cut d)) hol2 hlt (by rw [ones_two_flips ha hb hab]; rfl) w)
    clear hai hbj ha hb hab he hlt hol hol2
    generalize flip (flip (enc (cut d)) a) b = o2 at HF2 HC HD HS
    generalize flip (enc (cut d)) a = o1 at HF1 HF2
    go_enter Tryd.func6, Tryd.ntmps6
    go_wp2_with fail
    refine (examples_calls _ hT).mono ?_
    rintro e w1 ⟨rfl, hb1⟩
    have hT1 := hT.below hb1
    go_wp2_with fail
    refine (cutc_calls _ hd _).mono ?_
    rintro e w' ⟨rfl, rfl⟩
    go_wp2_with fail
    refine (enc_cut_calls d _ hT1).mono ?_
    rintro e w2 ⟨rfl, hb2⟩
    have hT2 := hT1.below hb2
    have hb3 := balloc w2 (.cells #[.int .u64 (enc (cut d)), .int .i64 0] 27)
    have hT3 := hT2.below hb3
    go_wp2_with fail
    refine (HF1.out _).mono ?_
    rintro e w' ⟨rfl, rfl⟩
    go_wp2_with fail
    refine (HF2.out _).mono ?_
    rintro e w' ⟨rfl, rfl⟩
    go_wp2_with fail
    refine (HC.out _ hT3).mono ?_
    rintro e w' ⟨rfl, rfl⟩
    go_wp2_with fail
    refine (HD.out _ hT3).mono ?_
    rintro e w4 ⟨rfl, hb4⟩
    have q0 : w4.cell? ⟨w2.heap.size, 0, none⟩ = some (.int .u64 (enc (cut d))) := (hb4.cell (p := ⟨w2.heap.size, 0, none⟩) (by simp)).trans (by simp [go_sem])
    go_wp2_with fail
    refine (HS.out _).mono ?_
    rintro e w' ⟨rfl, rfl⟩
    go_wp2_with fail
    go_ret
    exact ⟨rfl, bb hb1 (bb hb2 (bb hb3 hb4))⟩
theorem det_law (a : Int) (ha : (Lit.int .u64 a).wf = true) (b : Int) (hb : (Lit.int .u8 b).wf = true) (c : Int) (hc : (Lit.int .u8 c).wf = true) (w : World) (hT : GTab w) :
    Calls Tryd.prog 6 #[.int .u64 a, .int .u8 b, .int .u8 c] w fun e w' => e = .returned (.bool true) ∧ Below w.heap.size w w' := by
  obtain ⟨n, rfl, hn⟩ := of_wf ha
  obtain ⟨m, rfl, hm⟩ := of_wf8 hb
  obtain ⟨l, rfl, hl⟩ := of_wf8 hc
  exact det_calls n m l hn hm hl w hT
end Ham
end Go.Proofs.YtpigonlbdleaeaaDoor
