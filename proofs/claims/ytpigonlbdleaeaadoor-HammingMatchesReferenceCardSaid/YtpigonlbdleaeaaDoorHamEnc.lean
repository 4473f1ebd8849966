/- The walk of hamming.Encode. -/
import Derived.Test.YtpigonlbdleaeaaDoorHamIter
import Derived.Outline
import Derived.RegionTactic
import Derived.ChangeAlike
import Derived.Laws.EntriesVeiled
import Derived.RangeFuncOne
namespace Go.Proofs.YtpigonlbdleaeaaDoor
open Go.RowKit Go.Shelf
namespace Ham
attribute [local go_sem] Oper.semAt_some
theorem or_lt' {a b : Nat} (ha : a < 18446744073709551616) (hb : b < 18446744073709551616) : a ||| b < 18446744073709551616 := Nat.or_lt_two_pow (n := 64) ha hb
theorem pow_wrap {i : Nat} (hi : i < 64) : IntKind.u64.wrap (2 ^ i) = ((2 ^ i : Nat) : Int) := by
  obtain ⟨p, hp⟩ : ∃ p : Nat, p = 2 ^ i := ⟨_, rfl⟩
  have h := pow_lt' hi
  have e0 : ((2 : Int) ^ i) = ((2 ^ i : Nat) : Int) := by simp
  rw [e0]
  rw [← hp] at h ⊢
  exact w64 _ (by omega) (by omega)
set_option maxHeartbeats 1000000 in
theorem set_calls (p v B : Nat) (hp : p < 64) (hv : v < 18446744073709551616) (w : World) (hc : w.cell? ⟨B, 0, none⟩ = some (.int .u64 v)) (hz : w.frozen? ⟨B, 0, none⟩ = false) :
    Calls Tryd.prog 30 #[.int .i64 p, .pointer (some ⟨B, 0, none⟩)] w fun e w' => e = .returned (.tuple #[]) ∧ w' = (w.setCell ⟨B, 0, none⟩ (.int .u64 ((v ||| 2 ^ p : Nat) : Int))).drew := by
  have e1 := pow_wrap hp
  have e2 := bits_or_u64_nat v (2 ^ p) hv (pow_lt' hp)
  rw [show ((2 ^ p : Nat) : Int) = (2 : Int) ^ p by simp] at e1 e2
  go_enter Tryd.func30, Tryd.ntmps30
  go_wp2
  go_region
  all_goals
    go_wp2
    go_end0
    exact ⟨rfl, rfl⟩
def spL (d : Nat) (pre : List (Fin 57)) : Nat := pre.foldl (fun a i => a ||| (if d.testBit i.1 then 2 ^ place i.1 else 0)) 0
theorem spL_snoc (d : Nat) (pre : List (Fin 57)) (i : Fin 57) : spL d (pre ++ [i]) = spL d pre ||| (if d.testBit i.1 then 2 ^ place i.1 else 0) := by simp [spL]
theorem spL_lt (d : Nat) (pre : List (Fin 57)) : spL d pre < 18446744073709551616 := by
  unfold spL
  suffices h : ∀ a, a < 18446744073709551616 → pre.foldl (fun a i => a ||| (if d.testBit i.1 then 2 ^ place i.1 else 0)) a < 18446744073709551616 from h 0 (by decide)
  induction pre with
  | nil => intro a ha; exact ha
  | cons i pre ih =>
    intro a ha
    rw [List.foldl_cons]
    refine ih _ (or_lt' ha ?_)
    split
    · exact pow_lt' (place_lt i.1 i.2)
    · decide
theorem foldl_vals (f : Nat → Nat → Nat) : ∀ (xs : List (Fin 57)) (a : Nat), xs.foldl (fun a i => f a i.1) a = (xs.map Fin.val).foldl f a
  | [], _ => rfl
  | i :: xs, a => by simp only [List.foldl_cons, List.map_cons]; exact foldl_vals f xs _
theorem foldl_range (d : Nat) : ∀ n, (List.range n).foldl (fun a i => a ||| (if d.testBit i then 2 ^ place i else 0)) 0 = spF d n
  | 0 => rfl
  | n + 1 => by rw [List.range_succ, List.foldl_append, foldl_range d n]; rfl
theorem spL_all (d : Nat) (xs : List (Fin 57)) (h : xs.map Fin.val = List.range 57) : spL d xs = sp d := by
  rw [spL, foldl_vals (fun a i => a ||| (if d.testBit i then 2 ^ place i else 0)), h, foldl_range]; rfl
theorem bit_test (d i : Nat) (hd : d < 18446744073709551616) : (bits .and .u64 ((d : Int) / 2 ^ i) 1 == 1) = d.testBit i := by
  rw [show ((d : Int) / 2 ^ i) = ((d / 2 ^ i : Nat) : Int) by simp, show (1 : Int) = ((1 : Nat) : Int) from rfl, bits_and_u64_nat _ _ (Nat.lt_of_le_of_lt (Nat.div_le_self _ _) hd) (by decide), Nat.testBit_eq_decide_div_mod_eq]
  rw [Nat.and_one_is_mod, Bool.eq_iff_iff]
  simp only [beq_iff_eq, decide_eq_true_eq]
  omega
/-- What Encode's own variables hold. -/
structure EncI (w W : World) (d v : Nat) : Prop where
  c0 : W.cell? ⟨w.heap.size, 0, none⟩ = some (.int .u64 d)
  c1 : W.cell? ⟨w.heap.size + 1, 0, none⟩ = some (.int .u64 v)
  z1 : W.frozen? ⟨w.heap.size + 1, 0, none⟩ = false
  c2 : W.cell? ⟨w.heap.size + 1 + 1, 0, none⟩ = some (.func (.func 30) #[] #[.pointer (some ⟨w.heap.size + 1, 0, none⟩)])
  below : Below w.heap.size w W
theorem EncI.set {w W : World} {d v : Nat} (h : EncI w W d v) (v' : Nat) : EncI w (W.setCell ⟨w.heap.size + 1, 0, none⟩ (.int .u64 v')).drew d v' :=
  ⟨(World.cell?_setCell_other _ _ _ _ (by simp)).trans h.c0, World.cell?_setCell_same _ _ _ h.c1, (World.frozen?_setCell _ _ _ _).trans h.z1, (World.cell?_setCell_other _ _ _ _ (by simp)).trans h.c2,
    (h.below.setCell (p := ⟨w.heap.size + 1, 0, none⟩) (by simp) _).drew⟩
theorem EncI.own (w : World) (d : Nat) (f : List (Fin 57) → Nat) (B : Nat) (hB : w.heap.size ≤ B) : OwnFrom B (fun (pre : List (Fin 57)) W => EncI w W d (f pre)) := by
  have h1 : OwnFrom B (fun (pre : List (Fin 57)) W => (W.cell? ⟨w.heap.size, 0, none⟩ = some (.int .u64 d) ∧ W.cell? ⟨w.heap.size + 1, 0, none⟩ = some (.int .u64 (f pre)) ∧ W.frozen? ⟨w.heap.size + 1, 0, none⟩ = false ∧
      W.cell? ⟨w.heap.size + 1 + 1, 0, none⟩ = some (.func (.func 30) #[] #[.pointer (some ⟨w.heap.size + 1, 0, none⟩)])) ∧ Below w.heap.size w W) :=
    OwnFrom.and (Own.from (fun s A B row hs hg hr => ⟨cell_kept hs.1 hg hr, cell_kept hs.2.1 hg hr, (frozen_kept hs.2.1 hg hr).trans hs.2.2.1, cell_kept hs.2.2.2 hg hr⟩) _) (ownFrom_below (Nat.le_refl _) hB)
  intro s A B' row hs hg hr
  have := h1 s A B' row ⟨⟨hs.c0, hs.c1, hs.z1, hs.c2⟩, hs.below⟩ hg hr
  exact ⟨this.1.1, this.1.2.1, this.1.2.2.1, this.1.2.2.2, this.2⟩
theorem keeps_set (W : World) (a : Addr) (v : Value) : KeepsOthers W (W.setCell a v).drew := (KeepsOthers.setCell _ _ _).trans (KeepsOthers.drew _)
theorem and_pow (s k : Nat) (hs : s < 64) (hk : k < 6) : (bits .and .i64 (s : Int) ((2 ^ k : Nat) : Int) != 0) = s.testBit k := by
  have hp : 2 ^ k ≤ 2 ^ 5 := Nat.pow_le_pow_right (by decide) (by omega)
  rw [bits_and_i64 _ _ (by omega) (by omega)]
  have h : ∀ s, s < 64 → ∀ k, k < 6 → (((s &&& 2 ^ k : Nat) : Int) != 0) = s.testBit k := by decide +kernel
  exact h s hs k hk
theorem pbF_lt (s : Nat) : ∀ k, k ≤ 6 → pbF s k < 18446744073709551616
  | 0, _ => by simp [pbF]
  | k + 1, h => by
    rw [pbF]
    refine or_lt' (pbF_lt s k (by omega)) ?_
    split
    · have : 2 ^ k ≤ 2 ^ 5 := Nat.pow_le_pow_right (by decide) (by omega)
      exact pow_lt' (by omega)
    · decide
set_option maxRecDepth 100000 in
set_option maxHeartbeats 4000000 in
theorem encode_in (n : Nat) (hn : 9 ≤ n) (d : Nat) (hd : d < 144115188075855872) (w : World) (hT : GTab w) :
    CallsIn Fence.wide n Tryd.prog 21 #[.int .u64 d] w fun e w' => e = .returned (.tuple #[.int .u64 (enc d), .int .i64 0]) ∧ Below w.heap.size w w' := by
  have h1 : 1 ≤ n := by omega
  have hd' : decide (144115188075855872 ≤ (d : Int)) = false := decide_eq_false (by omega)
  have Hd := Lib.hid hd
  clear hd
  refine callsIn_of_wp_marks Tryd.func21 rfl trivial ?_ rfl
  simp only [Tryd.ntmps21, List.size_toArray, List.length_cons, List.length_nil, Nat.reduceAdd, Nat.reduceSub, Array.replicate_succ, Array.replicate_zero, List.push_toArray, List.append_toArray, List.nil_append, List.cons_append]
  gi_wp2
  refine wpIn_rangeFunc_ownF rfl h1 (gf := 31) (lb := #[]) rfl trivial (enters_of Tryd.func31 (by kernel_rfl) rfl)
    (seqStopsA_iff.1 (places_stops Fence.wide (n - 1) trivial rfl (by omega) _)) walksK_t walksK_b (Below.refl _ _) (fun _ => rfl)
    (fun pre W => EncI w W d (spL d pre))
    (fun _ _ _ => False)
    (EncI.own w d (spL d) _ (by simp; omega))
    (fun _ => Own.from (fun _ _ _ _ hs _ _ => hs) _)
    ?init
    (fun x => { tmps := #[.int .u64 d, .pointer (some ⟨w.heap.size, 0, none⟩), .int .u64 0, .int .i64 0, .pointer (some ⟨w.heap.size + 1, 0, none⟩), .pointer (some ⟨w.heap.size + 1 + 1, 0, none⟩), .int .i64 x.1, .int .i64 (place x.1), undef, undef, .int .u64 d, .bool false, .func (.func 30) #[] #[.pointer (some ⟨w.heap.size + 1, 0, none⟩)], .int .i64 x.1, .int .i64 (place x.1), undef, undef, undef, undef, undef, undef, undef, undef, undef, undef, undef, undef, undef, undef, undef, undef, undef, undef, undef, undef, undef, undef, undef, undef, undef, undef, undef, undef], defers := [] }) ?assign ?body ?done ?stop
  case init =>
    exact ⟨by simp [go_sem], by simp [go_sem, spL], by simp [go_sem], by simp [go_sem], ((((Below.refl _ w).alloc (Nat.le_refl _) _).alloc (by simp) _).alloc (by simp; omega) _)⟩
  case assign =>
    intro l x W K hK
    gi_wp2
    exact hK
  case body =>
    rintro l pre x W hE _
    have hc0 := hE.c0
    have hc1 := hE.c1
    have hz1 := hE.z1
    have hc2 := hE.c2
    have hx := x.2
    have hv := spL_lt d pre
    have hp := place_lt x.1 hx
    have hdl : d < 18446744073709551616 := by have := Hd.out; omega
    have hle : w.heap.size ≤ W.heap.size := hE.below.size
    by_cases hb : d.testBit x.1 = true
    · have ht : (bits .and .u64 ((d : Int) / 2 ^ x.1) 1 == 1) = true := by rw [bit_test d _ hdl]; exact hb
      have HS := Lib.hid (spL_snoc d pre x)
      have Hb := Lib.hid hb
      clear hb
      gi_wp2_with (refine ⟨trivial, fun h_ => absurd h_ (by decide), ?_⟩; gi_at_call 30; refine (CallsIn.inRound l (callsIn_wide.2 (set_calls _ _ _ hp hv _ hc1 hz1))).mono ?_; rintro e w' ⟨rfl, rfl⟩)
      refine ⟨keeps_set _ _ _, (keeps_set _ _ _).walks, ?_⟩
      show EncI w _ d (spL d (pre ++ [x]))
      rw [HS.out, if_pos Hb.out]
      exact hE.set _
    · have ht : (bits .and .u64 ((d : Int) / 2 ^ x.1) 1 == 1) = false := by rw [bit_test d _ hdl]; simpa using hb
      have HS : Hid (spL d (pre ++ [x]) = spL d pre) := Lib.hid (by rw [spL_snoc, if_neg hb]; simp)
      clear hb
      gi_wp2
      refine ⟨KeepsOthers.refl _, (KeepsWalks.refl _), ?_⟩
      show EncI w _ d (spL d (pre ++ [x]))
      rw [HS.out]
      exact hE
  case stop =>
    rintro D c pre W _ _ h _
    exact h.elim
  case done =>
    rintro D xs W hD hxs hE hK
    have hv : sp d < 18446744073709551616 := sp_lt d
    rw [spL_all d xs hxs] at hE
    have hc1 := hE.c1
    have hc2 := hE.c2
    have hz1 := hE.z1
    have hTW := hT.below hE.below
    have hle : w.heap.size ≤ W.heap.size := hE.below.size
    have hs64 := syn_lt (sp d)
    gi_wp2_with (refine ⟨trivial, ?_⟩; gi_at_call 27; refine (callsIn_wide.2 (syndrome_calls _ hv _ hTW)).mono ?_; rintro e w' ⟨rfl, rfl⟩)
    gi_loopw [9] (fun p wr => ∃ k m : Nat, k ≤ 6 ∧ m = 2 ^ k ∧ p = .int .i64 m ∧ EncI w wr d (sp d ||| pbF (syn (sp d)) k) ∧ wr.heap[D]? = some (.deferred (some []))) (fun p _ => 128 - (intOf p).toNat)
    case atStart => exact ⟨0, 1, by omega, rfl, rfl, by simpa [pbF] using hE, hK⟩
    case round =>
      obtain ⟨k, m, hk, hm, rfl, hEr, hKr⟩ := hrel
      have Hm := Lib.hid hm
      have hvr : sp d ||| pbF (syn (sp d)) k < 18446744073709551616 := or_lt' hv (pbF_lt _ _ hk)
      have HV : Hid ((sp d ||| pbF (syn (sp d)) k) = (sp d ||| pbF (syn (sp d)) k)) := Lib.hid rfl
      have hst : k < 6 → sp d ||| pbF (syn (sp d)) (k + 1) = (sp d ||| pbF (syn (sp d)) k) ||| (if (syn (sp d)).testBit k then 2 ^ m else 0) := fun _ => by
        rw [pbF, ← Nat.or_assoc, hm]
      clear hE hc1 hc2 hz1 hTW
      by_cases hlt : k < 6
      · have hm2 : m ≤ 32 := by rw [hm]; exact Nat.pow_le_pow_right (by decide) (show k ≤ 5 by omega)
        have hm1 : 1 ≤ m := by rw [hm]; exact Nat.one_le_two_pow
        have hab := and_pow (syn (sp d)) k hs64 hlt
        rw [← hm] at hab
        have HST := Lib.hid (hst hlt)
        clear hst hm
        generalize hvv : (sp d ||| pbF (syn (sp d)) k) = v at hEr hvr HST HV
        clear hvv HV
        have hc1 := hEr.c1
        have hc2 := hEr.c2
        have hz1 := hEr.z1
        by_cases hb : (syn (sp d)).testBit k = true
        · rw [hb] at hab
          have Hb := Lib.hid hb
          clear hb
          gi_wp2_with (refine ⟨trivial, ?_⟩; gi_at_call 30; refine (callsIn_wide.2 (set_calls m v _ (by omega) hvr _ hc1 hz1)).mono ?_; rintro e w' ⟨rfl, rfl⟩)
          go_roundw
          case rel =>
            refine ⟨k + 1, m * 2, by omega, by rw [Nat.pow_succ, ← Hm.out], by go_num, ?_, (keeps_set _ _ _).same _ _ hKr rfl⟩
            rw [HST.out, if_pos Hb.out]
            exact hEr.set _
          case measure => simp [intOf]; omega
        · have hb' : (syn (sp d)).testBit k = false := by simpa using hb
          rw [hb'] at hab
          have Hb := Lib.hid hb
          clear hb hb'
          gi_wp2
          go_roundw
          case rel =>
            refine ⟨k + 1, m * 2, by omega, by rw [Nat.pow_succ, ← Hm.out], by go_num, ?_, hKr⟩
            rw [HST.out, if_neg Hb.out, Nat.or_zero]
            exact hEr
          case measure => simp [intOf]; omega
      · obtain rfl : k = 6 := by omega
        have hm64 : m = 64 := hm
        subst hm64
        have hv0 : enc0 d < 18446744073709551616 := enc0_lt d
        replace hEr : EncI w wr d (enc0 d) := hEr
        clear hst hvr HV hm Hm
        have hc1 := hEr.c1
        have hc2 := hEr.c2
        have hz1 := hEr.z1
        have ho := ones_le (enc0 d)
        by_cases hb : ones (enc0 d) % 2 = 1
        · have hb1 : ((ones (enc0 d) : Int) % 2 == 1) = true := by simp; omega
          have HE : Hid (enc d = enc0 d ||| 2 ^ 0) := Lib.hid (by rw [enc, if_pos hb])
          clear hb
          gi_wp2_with (first | (refine ⟨trivial, ?_⟩; gi_at_call 26; refine (callsIn_wide.2 (ones_calls _ hv0 _)).mono ?_; rintro e w' ⟨rfl, rfl⟩) | (refine ⟨trivial, ?_⟩; gi_at_call 30; refine (callsIn_wide.2 (set_calls 0 _ _ (by omega) hv0 _ hc1 hz1)).mono ?_; rintro e w' ⟨rfl, rfl⟩))
          have hK2 := (keeps_set w' ⟨w.heap.size + 1, 0, none⟩ (.int .u64 ((enc0 d ||| 2 ^ 0 : Nat) : Int))).same D _ hKr rfl
          have hB2 := (hEr.set (enc0 d ||| 2 ^ 0)).below
          refine ⟨by simp, .inl ⟨_, _, rfl, run_takeDeferred hK2, ?_⟩⟩
          refine ⟨.tuple #[.int .u64 ((enc0 d ||| 2 ^ 0 : Nat) : Int), .int .i64 0], by simp [results, Tryd.f21, go_sem], by rw [HE.out], ?_⟩
          exact hB2.trans (belowK_b (w := w) (Nat.le_refl _) _ D _ _ (by simp at hD; omega) hK2 rfl rfl)
        · have hb1 : ((ones (enc0 d) : Int) % 2 == 1) = false := by simp; omega
          have HE : Hid (enc d = enc0 d) := Lib.hid (by rw [enc, if_neg hb, Nat.or_zero])
          clear hb
          gi_wp2_with (first | (refine ⟨trivial, ?_⟩; gi_at_call 26; refine (callsIn_wide.2 (ones_calls _ hv0 _)).mono ?_; rintro e w' ⟨rfl, rfl⟩))
          have hB2 := hEr.below
          refine ⟨by simp, .inl ⟨_, _, rfl, run_takeDeferred hKr, ?_⟩⟩
          refine ⟨.tuple #[.int .u64 (enc0 d : Int), .int .i64 0], by simp [results, Tryd.f21, go_sem], by rw [HE.out], ?_⟩
          exact hB2.trans (belowK_b (w := w) (Nat.le_refl _) _ D _ _ (by simp at hD; omega) hKr rfl rfl)
end Ham
end Go.Proofs.YtpigonlbdleaeaaDoor
