/- The walk of hamming.Decode. -/
import Derived.Test.YtpigonlbdleaeaaDoorHamEnc
namespace Go.Proofs.YtpigonlbdleaeaaDoor
open Go.RowKit Go.Shelf
namespace Ham
attribute [local go_sem] Oper.semAt_some
def dtL (w : Nat) (pre : List (Fin 57)) : Nat := pre.foldl (fun a i => a ||| (if w.testBit (place i.1) then 2 ^ i.1 else 0)) 0
theorem dtL_snoc (w : Nat) (pre : List (Fin 57)) (i : Fin 57) : dtL w (pre ++ [i]) = dtL w pre ||| (if w.testBit (place i.1) then 2 ^ i.1 else 0) := by simp [dtL]
theorem dtL_lt (w : Nat) (pre : List (Fin 57)) : dtL w pre < 18446744073709551616 := by
  unfold dtL
  suffices h : ∀ a, a < 18446744073709551616 → pre.foldl (fun a i => a ||| (if w.testBit (place i.1) then 2 ^ i.1 else 0)) a < 18446744073709551616 from h 0 (by decide)
  induction pre with
  | nil => intro a ha; exact ha
  | cons i pre ih =>
    intro a ha
    rw [List.foldl_cons]
    refine ih _ (or_lt' ha ?_)
    split
    · have := i.2
      exact pow_lt' (by omega)
    · decide
theorem foldl_rangeD (w : Nat) : ∀ n, (List.range n).foldl (fun a i => a ||| (if w.testBit (place i) then 2 ^ i else 0)) 0 = dataF w n
  | 0 => rfl
  | n + 1 => by rw [List.range_succ, List.foldl_append, foldl_rangeD w n]; rfl
theorem dtL_all (w : Nat) (xs : List (Fin 57)) (h : xs.map Fin.val = List.range 57) : dtL w xs = data w := by
  rw [dtL, foldl_vals (fun a i => a ||| (if w.testBit (place i) then 2 ^ i else 0)), h, foldl_rangeD]; rfl
theorem bit_shl (w p i : Nat) (hw : w < 18446744073709551616) (hi : i < 64) : IntKind.u64.wrap (bits .and .u64 ((w : Int) / 2 ^ p) 1 * 2 ^ i) = ((if w.testBit p then 2 ^ i else 0 : Nat) : Int) := by
  rw [show ((w : Int) / 2 ^ p) = ((w / 2 ^ p : Nat) : Int) by simp, show (1 : Int) = ((1 : Nat) : Int) from rfl, bits_and_u64_nat _ _ (Nat.lt_of_le_of_lt (Nat.div_le_self _ _) hw) (by decide), Nat.testBit_eq_decide_div_mod_eq, Nat.and_one_is_mod]
  by_cases h : w / 2 ^ p % 2 = 1
  · simp only [h, decide_true, if_true]
    rw [show (((1 : Nat) : Int) * 2 ^ i) = 2 ^ i by simp, pow_wrap hi]
  · have h0 : w / 2 ^ p % 2 = 0 := by omega
    rw [h0]
    simp [IntKind.wrap_u64]
/-- What Decode's own variables hold. -/
structure DecI (w W : World) (b1 b2 : Nat) (x v : Nat) : Prop where
  c0 : W.cell? ⟨b1, 0, none⟩ = some (.int .u64 x)
  c1 : W.cell? ⟨b2, 0, none⟩ = some (.int .u64 v)
  z1 : W.frozen? ⟨b2, 0, none⟩ = false
  below : Below w.heap.size w W
theorem DecI.own (w : World) (b1 b2 x : Nat) (f : List (Fin 57) → Nat) (B : Nat) (hB : w.heap.size ≤ B) : OwnFrom B (fun (pre : List (Fin 57)) W => DecI w W b1 b2 x (f pre)) := by
  have h1 : OwnFrom B (fun (pre : List (Fin 57)) W => (W.cell? ⟨b1, 0, none⟩ = some (.int .u64 x) ∧ W.cell? ⟨b2, 0, none⟩ = some (.int .u64 (f pre)) ∧ W.frozen? ⟨b2, 0, none⟩ = false) ∧ Below w.heap.size w W) :=
    OwnFrom.and (Own.from (fun s A B row hs hg hr => ⟨cell_kept hs.1 hg hr, cell_kept hs.2.1 hg hr, (frozen_kept hs.2.1 hg hr).trans hs.2.2⟩) _) (ownFrom_below (Nat.le_refl _) hB)
  intro s A B' row hs hg hr
  have := h1 s A B' row ⟨⟨hs.c0, hs.c1, hs.z1⟩, hs.below⟩ hg hr
  exact ⟨this.1.1, this.1.2.1, this.1.2.2, this.2⟩
theorem DecI.set {w W : World} {b1 b2 x v : Nat} (h : DecI w W b1 b2 x v) (hne : b2 ≠ b1) (hb : w.heap.size ≤ b2) (v' : Nat) : DecI w (W.setCell ⟨b2, 0, none⟩ (.int .u64 v')).drew b1 b2 x v' :=
  ⟨(World.cell?_setCell_other _ _ _ _ (fun h => hne (congrArg Addr.block h))).trans h.c0, World.cell?_setCell_same _ _ _ h.c1, (World.frozen?_setCell _ _ _ _).trans h.z1, (h.below.setCell (p := ⟨b2, 0, none⟩) hb _).drew⟩
set_option maxRecDepth 100000 in
set_option maxHeartbeats 4000000 in
theorem decode_in0 (n : Nat) (hn : 9 ≤ n) (x : Nat) (hx : x < 18446744073709551616) (hc : check x = 0) (w : World) (hT : GTab w) :
    CallsIn Fence.wide n Tryd.prog 28 #[.int .u64 x] w fun e w' => e = .returned (.tuple #[.int .u64 (data x), .int .i64 0, .int .i64 0]) ∧ Below w.heap.size w w' := by
  have h1 : 1 ≤ n := by omega
  have hcc := check_calls x hx
  rw [hc] at hcc
  refine callsIn_of_wp_marks Tryd.func28 rfl trivial ?_ rfl
  simp only [Tryd.ntmps28, List.size_toArray, List.length_cons, List.length_nil, Nat.reduceAdd, Nat.reduceSub, Array.replicate_succ, Array.replicate_zero, List.push_toArray, List.append_toArray, List.nil_append, List.cons_append]
  have hTW := hT.below ((Below.refl _ w).alloc (Nat.le_refl _) (.cells #[.int .u64 x] 22))
  have hy := hx
  gi_wp2_with (first | (refine ⟨trivial, ?_⟩; gi_at_call 17; refine (callsIn_wide.2 (hcc _ hTW)).mono ?_; rintro e w' ⟨rfl, rfl⟩))
  refine wpIn_rangeFunc_ownF rfl h1 (gf := 31) (lb := #[]) rfl trivial (enters_of Tryd.func31 (by kernel_rfl) rfl)
    (seqStopsA_iff.1 (places_stops Fence.wide (n - 1) trivial rfl (by omega) _)) walksK_t walksK_b (Below.refl _ _) (fun _ => rfl)
    (fun pre W => DecI w W w.heap.size (w.heap.size + 1) x (dtL x pre))
    (fun _ _ _ => False)
    (DecI.own w _ _ x (dtL x) _ (by simp; omega))
    (fun _ => Own.from (fun _ _ _ _ hs _ _ => hs) _)
    ?init
    (fun i => { tmps := #[.int .u64 x, .pointer (some ⟨w.heap.size, 0, none⟩), .int .u64 0, .int .i64 0, .int .i64 0, .int .i64 0, .pointer (some ⟨w.heap.size + 1, 0, none⟩), .int .i64 i.1, .int .i64 (place i.1), .int .u64 x, .int .i64 0, .int .i64 0, .bool false, .int .i64 0, .bool false, undef, undef, undef, undef, .int .i64 i.1, .int .i64 (place i.1), undef, undef, undef, undef, undef, undef, undef, undef, undef, undef], defers := [] }) ?assign ?body ?done ?stop
  case init =>
    exact ⟨by simp [go_sem], by simp [go_sem, dtL], by simp [go_sem], by exact (((Below.refl _ w).alloc (Nat.le_refl _) _).alloc (by simp) _)⟩
  case assign =>
    intro l i W K hK
    gi_wp2
    exact hK
  case stop =>
    rintro D c pre W _ _ h _
    exact h.elim
  case body =>
    rintro l pre i W hE _
    have hc0 := hE.c0
    have hc1 := hE.c1
    have hz1 := hE.z1
    have hi := i.2
    have hv := dtL_lt x pre
    have hp := place_lt i.1 hi
    have hle : w.heap.size ≤ W.heap.size := hE.below.size
    have e1 := bit_shl x (place i.1) i.1 hy (by omega)
    have ht : (if (x).testBit (place i.1) then 2 ^ i.1 else 0) < 18446744073709551616 := by
      split
      · exact pow_lt' (by omega)
      · decide
    have e2 := bits_or_u64_nat _ _ hv ht
    have HS := Lib.hid (dtL_snoc x pre i)
    have hP : Tryd.prog.follows .mixedOrders = true := by kernel_rfl
    generalize (if (x).testBit (place i.1) then 2 ^ i.1 else 0) = t at e1 e2 ht HS
    gi_wp2
    gi_region_o
    all_goals gi_wp2
    all_goals
      refine ⟨keeps_set _ _ _, (keeps_set _ _ _).walks, ?_⟩
      show DecI w _ _ _ x (dtL x (pre ++ [i]))
      rw [HS.out]
      exact hE.set (by simp) (by simp) _
  case done =>
    rintro D xs W hD hxs hE hK
    rw [dtL_all x xs hxs] at hE
    have hc1 := hE.c1
    gi_wp2
    refine ⟨by simp, .inl ⟨_, _, rfl, run_takeDeferred hK, ?_⟩⟩
    refine ⟨.tuple #[.int .u64 (data x : Int), .int .i64 0, .int .i64 0], by simp [results, Tryd.f28, go_sem], rfl, ?_⟩
    exact hE.below.trans (belowK_b (w := w) (Nat.le_refl _) _ D _ _ (by simp at hD; omega) hK rfl rfl)
set_option maxRecDepth 100000 in
set_option maxHeartbeats 4000000 in
theorem decode_in1 (n : Nat) (hn : 9 ≤ n) (x : Nat) (hx : x < 18446744073709551616) (hc : check x = 1) (w : World) (hT : GTab w) :
    CallsIn Fence.wide n Tryd.prog 28 #[.int .u64 x] w fun e w' => e = .returned (.tuple #[.int .u64 (data (flip x (syn x))), .int .i64 1, .int .i64 0]) ∧ Below w.heap.size w w' := by
  have h1 : 1 ≤ n := by omega
  have hcc := check_calls x hx
  rw [hc] at hcc
  refine callsIn_of_wp_marks Tryd.func28 rfl trivial ?_ rfl
  simp only [Tryd.ntmps28, List.size_toArray, List.length_cons, List.length_nil, Nat.reduceAdd, Nat.reduceSub, Array.replicate_succ, Array.replicate_zero, List.push_toArray, List.append_toArray, List.nil_append, List.cons_append]
  have hTW := hT.below ((Below.refl _ w).alloc (Nat.le_refl _) (.cells #[.int .u64 x] 22))
  have hs := syn_lt x
  have hy := flip_lt' hx hs
  gi_wp2_with (first | (refine ⟨trivial, ?_⟩; gi_at_call 17; refine (callsIn_wide.2 (hcc _ hTW)).mono ?_; rintro e w' ⟨rfl, rfl⟩) | (refine ⟨trivial, ?_⟩; gi_at_call 27; refine (callsIn_wide.2 (syndrome_calls _ hx _ hTW)).mono ?_; rintro e w' ⟨rfl, rfl⟩) | (refine ⟨trivial, ?_⟩; gi_at_call 13; refine (callsIn_wide.2 (flip_in _ _ hx hs _)).mono ?_; rintro e w' ⟨rfl, rfl⟩))
  have hP : Tryd.prog.follows .mixedOrders = true := by kernel_rfl
  have hTD : GTab (w.alloc (.cells #[.int .u64 x] 22)).drew := ⟨hTW.at_⟩
  gi_region_with_o (first | (refine ⟨trivial, ?_⟩; gi_at_call 27; refine (callsIn_wide.2 (syndrome_calls _ hx _ hTD)).mono ?_; rintro e w' ⟨rfl, rfl⟩) | (refine ⟨trivial, ?_⟩; gi_at_call 13; refine (callsIn_wide.2 (flip_in _ _ hx hs _)).mono ?_; rintro e w' ⟨rfl, rfl⟩))
  all_goals gi_wp2
  all_goals
    refine wpIn_rangeFunc_ownF rfl h1 (gf := 31) (lb := #[]) rfl trivial (enters_of Tryd.func31 (by kernel_rfl) rfl)
      (seqStopsA_iff.1 (places_stops Fence.wide (n - 1) trivial rfl (by omega) _)) walksK_t walksK_b (Below.refl _ _) (fun _ => rfl)
      (fun pre W => DecI w W w.heap.size (w.heap.size + 1) (flip x (syn x)) (dtL (flip x (syn x)) pre))
      (fun _ _ _ => False)
      (DecI.own w _ _ (flip x (syn x)) (dtL (flip x (syn x))) _ (by simp; omega))
      (fun _ => Own.from (fun _ _ _ _ hs _ _ => hs) _)
      ?_
      (fun i => { tmps := #[.int .u64 x, .pointer (some ⟨w.heap.size, 0, none⟩), .int .u64 0, .int .i64 0, .int .i64 0, .int .i64 1, .pointer (some ⟨w.heap.size + 1, 0, none⟩), .int .i64 i.1, .int .i64 (place i.1), .int .u64 x, .int .i64 1, .int .i64 1, .bool false, .int .i64 1, .bool true, .int .u64 x, .int .u64 x, .int .i64 (syn x), .int .u64 (flip x (syn x)), .int .i64 i.1, .int .i64 (place i.1), undef, undef, undef, undef, undef, undef, undef, undef, undef, undef], defers := [] }) ?_ ?_ ?_ ?_
    · exact ⟨by simp [go_sem], by simp [go_sem, dtL], by simp [go_sem], by exact (((Below.refl _ w).alloc (Nat.le_refl _) _).alloc (by simp) _).drew⟩
    · intro l i W K hK
      gi_wp2
      exact hK
    · rintro l pre i W hE _
      have hc0 := hE.c0
      have hc1 := hE.c1
      have hz1 := hE.z1
      have hi := i.2
      have hv := dtL_lt (flip x (syn x)) pre
      have hp := place_lt i.1 hi
      have hle : w.heap.size ≤ W.heap.size := hE.below.size
      have e1 := bit_shl (flip x (syn x)) (place i.1) i.1 hy (by omega)
      have ht : (if ((flip x (syn x))).testBit (place i.1) then 2 ^ i.1 else 0) < 18446744073709551616 := by
        split
        · exact pow_lt' (by omega)
        · decide
      have e2 := bits_or_u64_nat _ _ hv ht
      have HS := Lib.hid (dtL_snoc (flip x (syn x)) pre i)
      have hP : Tryd.prog.follows .mixedOrders = true := by kernel_rfl
      generalize (if ((flip x (syn x))).testBit (place i.1) then 2 ^ i.1 else 0) = t at e1 e2 ht HS
      gi_wp2
      gi_region_o
      all_goals gi_wp2
      all_goals
        refine ⟨keeps_set _ _ _, (keeps_set _ _ _).walks, ?_⟩
        show DecI w _ _ _ (flip x (syn x)) (dtL (flip x (syn x)) (pre ++ [i]))
        rw [HS.out]
        exact hE.set (by simp) (by simp) _
    · rintro D xs W hD hxs hE hK
      rw [dtL_all (flip x (syn x)) xs hxs] at hE
      have hc1 := hE.c1
      gi_wp2
      refine ⟨by simp, .inl ⟨_, _, rfl, run_takeDeferred hK, ?_⟩⟩
      refine ⟨.tuple #[.int .u64 (data (flip x (syn x)) : Int), .int .i64 1, .int .i64 0], by simp [results, Tryd.f28, go_sem], rfl, ?_⟩
      exact hE.below.trans (belowK_b (w := w) (Nat.le_refl _) _ D _ _ (by simp at hD; omega) hK rfl rfl)
    · rintro D c pre W _ _ h _
      exact h.elim
end Ham
end Go.Proofs.YtpigonlbdleaeaaDoor
