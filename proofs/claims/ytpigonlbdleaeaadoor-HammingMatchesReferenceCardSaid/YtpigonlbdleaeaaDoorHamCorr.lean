/- The walk of the law HammingCorrects. -/
import Derived.Test.YtpigonlbdleaeaaDoorHamRound
import Derived.Deep.RegionHeld3
namespace Go.Proofs.YtpigonlbdleaeaaDoor
open Go.RowKit
namespace Ham
theorem bdrew (a : World) : Below a.heap.size a a.drew := (Below.refl _ a).drew
theorem balloc (a : World) (o : Obj) : Below a.heap.size a (a.alloc o) := (Below.refl _ a).alloc (Nat.le_refl _) o
theorem flip_at (a b : Int) (x k : Nat) (hx : x < 18446744073709551616) (hk : k < 64) (ha : a = k) (hb : (flip x k : Int) = b) (w : World) :
    Calls Tryd.prog 13 #[.int .u64 x, .int .i64 a] w fun e w' => e = .returned (.int .u64 b) ∧ w' = w := by
  subst ha hb
  exact flip_in x k hx hk w
theorem dist_at (b : Int) (x y : Nat) (hx : x < 18446744073709551616) (hy : y < 18446744073709551616) (hb : (ones (x ^^^ y) : Int) = b) (w : World) :
    Calls Tryd.prog 15 #[.int .u64 x, .int .u64 y] w fun e w' => e = .returned (.int .i64 b) ∧ w' = w := by
  subst hb
  exact distance_calls x y hx hy w
theorem check_flip {e k : Nat} (he : check e = 0) (hk : k < 64) : check (flip e k) = 1 := by
  rw [check_odd, flip_ones hk]
  have := (check_code.1 he).2
  omega
theorem syn_flip {e k : Nat} (he : check e = 0) (hk : k < 64) : syn (flip e k) = k := by
  rw [flip_syn hk, (check_code.1 he).1, Nat.zero_xor]
theorem tmod_wrap (i k : Nat) (h : k = i % 64) : IntKind.i64.wrap ((i : Int).tmod 64) = k := by
  rw [Int.tmod_eq_emod_of_nonneg (by omega), IntKind.wrap_i64]
  omega
set_option maxRecDepth 100000 in
set_option maxHeartbeats 4000000 in
theorem corr_calls (d i : Nat) (hd : d < 18446744073709551616) (hi : i < 256) (w : World) (hT : GTab w) :
    Calls Tryd.prog 5 #[.int .u64 d, .int .u8 i] w fun e w' => e = .returned (.bool true) ∧ Below w.heap.size w w' := by
  obtain ⟨k, hk, hki⟩ : ∃ k : Nat, k < 64 ∧ k = i % 64 := ⟨i % 64, Nat.mod_lt _ (by decide), rfl⟩
  have he := check_enc (cut d)
  have hlt := enc_lt' (cut d)
  have hol : flip (enc (cut d)) k < 18446744073709551616 := flip_lt' hlt hk
  have HC := Lib.hid (fun w hT => check_at _ 1 (flip (enc (cut d)) k) hol rfl (by rw [check_flip he hk]; rfl) w hT)
  have HD := Lib.hid (fun w hT => dec_at _ (cut d) 1 0 (flip (enc (cut d)) k) hol rfl
    (by rw [decD, check_flip he hk, syn_flip he hk, flip_flip, if_neg (by decide), if_pos rfl, data_enc']) (by rw [decN, check_flip he hk]; rfl) (by rw [decE, check_flip he hk]; rfl) w hT)
  have HF1 := Lib.hid (fun w => flip_at ((i : Int) % 64) _ (enc (cut d)) k hlt hk (by omega) rfl w)
  have HF2 := Lib.hid (fun w => flip_at (IntKind.i64.wrap ((i : Int).tmod 64)) (enc (cut d)) (flip (enc (cut d)) k) k hol hk (tmod_wrap i k hki) (by rw [flip_flip]) w)
  have HS := Lib.hid (fun w => dist_at 1 (flip (enc (cut d)) k) (enc (cut d)) hol hlt (by rw [ones_flip_self hk]; rfl) w)
  clear hki hk he hlt hol
  generalize flip (enc (cut d)) k = odd at HC HD HF1 HF2 HS
  go_enter Tryd.func5, Tryd.ntmps5
  go_wp2_with fail
  refine (examples_calls _ hT).mono ?_
  rintro e w1 ⟨rfl, hb1⟩
  have hT1 := hT.below hb1
  go_wp2_with fail
  refine (cutc_calls _ hd _).mono ?_
  rintro e w' ⟨rfl, rfl⟩
  go_wp2_with fail
  refine (enc_cut_calls d _ hT1).mono ?_
  rintro e w2 ⟨rfl, hb2⟩
  have hT2 := hT1.below hb2
  have hb3 := balloc w2 (.cells #[.int .u64 (enc (cut d)), .int .i64 0] 27)
  have hT3 := hT2.below hb3
  have hB3 := bb hb1 (bb hb2 hb3)
  go_wp2_with fail
  refine (HF1.out _).mono ?_
  rintro e w' ⟨rfl, rfl⟩
  go_wp2_with fail
  have q0 : (w2.alloc (.cells #[.int .u64 (enc (cut d)), .int .i64 0] 27)).drew.cell? ⟨w2.heap.size, 0, none⟩ = some (.int .u64 (enc (cut d))) := by simp [go_sem]
  have q1 : (w2.alloc (.cells #[.int .u64 (enc (cut d)), .int .i64 0] 27)).drew.cell? ⟨w2.heap.size, 1, none⟩ = some (.int .i64 0) := by simp [go_sem]
  have hTd : GTab (w2.alloc (.cells #[.int .u64 (enc (cut d)), .int .i64 0] 27)).drew := ⟨hT3.at_⟩
  have hBd := bb hB3 (bdrew _)
  go_region_held3 (fun w' => w'.cell? ⟨w2.heap.size, 0, none⟩ = some (.int .u64 (enc (cut d))) ∧ w'.cell? ⟨w2.heap.size, 1, none⟩ = some (.int .i64 0) ∧ GTab w' ∧ Below w.heap.size w w' ∧ w2.heap.size < w'.heap.size)
    (first | exact ⟨by assumption, by assumption, by assumption, by assumption, by assumption⟩ | exact ⟨q0, q1, hTd, hBd, by simp⟩)
    (first
      | (go_at_call 17; (with_reducible refine (HC.out _ (by assumption)).mono ?_); rintro e w' ⟨rfl, rfl⟩)
      | (go_at_call 19; (with_reducible refine (HD.out _ (by assumption)).mono ?_); rintro e w4 ⟨rfl, hb4⟩; have hc0 := (hb4.cell (p := ⟨w2.heap.size, 0, none⟩) (by first | assumption | simp)).trans (by first | assumption | exact q0); have hc1 := (hb4.cell (p := ⟨w2.heap.size, 1, none⟩) (by first | assumption | simp)).trans (by first | assumption | exact q1); have hT4 := GTab.below (by first | assumption | exact hTd) hb4; have hB4 := bb (by first | assumption | exact hBd) hb4; have hs4 := Nat.lt_of_lt_of_le (show w2.heap.size < _ by first | assumption | simp) hb4.size)
      | (go_at_call 12; (with_reducible refine (cutc_calls _ hd _).mono ?_); rintro e w' ⟨rfl, rfl⟩)
      | (go_at_call 15; (with_reducible refine (HS.out _).mono ?_); rintro e w' ⟨rfl, rfl⟩)
      | (go_at_call 13; (with_reducible refine (HF2.out _).mono ?_); rintro e w' ⟨rfl, rfl⟩))
  go_wp2
  go_ret
  exact ⟨rfl, by assumption⟩
theorem of_wf8 {a : Int} (h : (Lit.int .u8 a).wf = true) : ∃ n : Nat, a = n ∧ n < 256 := by
  have hb := bounds_u8 h
  exact ⟨a.toNat, by omega, by omega⟩
theorem corr_law (a : Int) (ha : (Lit.int .u64 a).wf = true) (b : Int) (hb : (Lit.int .u8 b).wf = true) (w : World) (hT : GTab w) :
    Calls Tryd.prog 5 #[.int .u64 a, .int .u8 b] w fun e w' => e = .returned (.bool true) ∧ Below w.heap.size w w' := by
  obtain ⟨n, rfl, hn⟩ := of_wf ha
  obtain ⟨m, rfl, hm⟩ := of_wf8 hb
  exact corr_calls n m hn hm w hT
end Ham
end Go.Proofs.YtpigonlbdleaeaaDoor
