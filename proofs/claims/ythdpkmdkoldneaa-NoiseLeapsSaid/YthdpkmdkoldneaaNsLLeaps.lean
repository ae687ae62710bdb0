/-
  What is proved: for all seeds, numbers and leaps the law NoiseLeaps returns true (unlike states tell unlike numbers; a leap is so many steps), and its arguments read as before. No conditions.
-/
import Derived.Test.YthdpkmdkoldneaaNsW
import Derived.Test.YthdpkmdkoldneaaFlG
import Derived.Test.YthdpkmdkoldneaaFlL
import Derived.Test.YthdpkmdkoldneaaRows
import Derived.ProofKit
import Derived.OpenShut
import Derived.WalkKit
import Derived.WalkLawsBesides
import Derived.WalkSpells
import Derived.BigQuiet
import Derived.Lib.Hide
import Derived.Outline
import Derived.LoopTactic
set_option autoImplicit false
set_option linter.unusedVariables false
namespace Go.Proofs.Ythdpkmdkoldneaa
open Go.RowKit Go.ChangeShapes Go.WideShapes Go.ChangeAt Lk

theorem Try.own : ownKnob Try.prog.godebug = none := by kernel_rfl
theorem Try.laidOut : laidOutB Try.prog = true := by kernel_rfl

theorem unlike (a b : Nat) (ha : a < 2 ^ 64) (hb : b < 2 ^ 64) : (((mix (nx a) : Nat) : Int) == ((mix (nx b) : Nat) : Int)) = ((a : Int) == (b : Int)) := by
  rw [Bool.eq_iff_iff, beq_iff_eq, beq_iff_eq, Int.natCast_inj, Int.natCast_inj]
  exact mix_nx_inj ha hb

set_option maxHeartbeats 2000000 in
theorem leaps_law (a b p q : Nat) (n : Int) (w : World) (ha : a < 2 ^ 64) (hb : b < 2 ^ 64) (hp : p < 2 ^ 64) (hq : q < 2 ^ 64) (hn1 : -9223372036854775808 ≤ n) (hn2 : n ≤ 9223372036854775807) :
    Calls Try.prog 3 #[.int .u64 a, .int .u64 b, .int .i64 n, .int .u64 p, .int .u64 q] w (fun e w' => e = .returned (.bool true) ∧ Below w.heap.size w w') := by
  have U := unlike a b ha hb
  have hm1 : -1000 < n.tmod 1000 := Int.lt_tmod_of_pos n (by decide)
  have hm2 : n.tmod 1000 < 1000 := Int.tmod_lt_of_pos n (by decide)
  obtain ⟨N, hN, hT⟩ : ∃ N : Nat, N < 1000 ∧ ((n.tmod 1000 < 0 ∧ wrap64 (-n.tmod 1000) = (N : Int)) ∨ (¬ n.tmod 1000 < 0 ∧ n.tmod 1000 = (N : Int))) := by
    by_cases h : n.tmod 1000 < 0
    · exact ⟨(-n.tmod 1000).toNat, by omega, .inl ⟨h, by unfold wrap64; omega⟩⟩
    · exact ⟨(n.tmod 1000).toNat, by omega, .inr ⟨h, by omega⟩⟩
  have hcv : IntKind.u64.wrap (N : Int) = N := by rw [IntKind.wrap_u64]; omega
  clear hm1 hm2
  obtain ⟨pq, hpq1, hpq2⟩ : ∃ pq : Nat, (∀ s, skp s pq = skp s (p + q)) ∧ IntKind.u64.wrap ((p : Int) + (q : Int)) = (pq : Int) :=
    ⟨(p + q) % 2 ^ 64, fun s => skp_mod s (p + q), by rw [IntKind.wrap_u64]; omega⟩
  have HPQ := Lib.hid hpq1
  clear hpq1
  go_enter Try.func3, Try.ntmps3
  go_wp2_with fail
  refine (works_walk _).mono ?_; rintro e w1 ⟨rfl, o1⟩
  go_wp2_with fail
  refine (new_walk a _).mono ?_; rintro e w2 ⟨rfl, b2, o2, z2⟩
  go_wp2_with fail
  refine (next_walk _ _ _ b2).mono ?_; rintro e w3 ⟨rfl, b3, o3⟩
  go_wp2_with fail
  refine (new_walk b _).mono ?_; rintro e w4 ⟨rfl, b4, o4, z4⟩
  go_wp2_with fail
  refine (next_walk _ _ _ b4).mono ?_; rintro e w5 ⟨rfl, b5, o5⟩
  have hw5 : Below w.heap.size w w5 := by
    have s1 := o1.size
    have s3 := o3.size
    have s4 := o4.size
    exact (((o1.trans (o2.mono s1)).trans (o3.below s1 (by omega))).trans (o4.mono (by omega))).trans (o5.below (by omega) (by omega))
  clear o1 o2 o3 o4 o5 b2 b3 b4 b5 z2 z4
  rcases hT with ⟨hT1, hT2⟩ | ⟨hT1, hT2⟩
  all_goals
    go_wp2_with fail
    refine (new_walk a _).mono ?_; rintro e w6 ⟨rfl, b6, o6, z6⟩
    go_wp2_with fail
    refine (new_walk a _).mono ?_; rintro e w7 ⟨rfl, b7, o7, z7⟩
    have b6' := b6.stay o7
    obtain ⟨bx, hbx⟩ : ∃ bx, bx = w5.heap.size := ⟨_, rfl⟩
    obtain ⟨by', hby⟩ : ∃ by', by' = w6.heap.size := ⟨_, rfl⟩
    rw [← hbx] at b6 b6' ⊢
    rw [← hby] at b7 ⊢
    have hw7 : Below w.heap.size w w7 := (hw5.trans (o6.mono hw5.size)).trans (o7.mono (by have := hw5.size; omega))
    have hbx' : w.heap.size ≤ bx := by have := hw5.size; omega
    have hne : bx < by' := by omega
    clear b6 o6 o7 hw5 z6 z7 hbx hby
    go_wp2_with fail
    go_loopw [38] (fun i wr => ∃ k : Nat, k ≤ N ∧ i = .int .i64 k ∧ BlN wr bx (skp a k) ∧ BlN wr by' a ∧ Below w.heap.size w wr) (fun i _ => N - (intOf i).toNat)
    case atStart => exact ⟨0, Nat.zero_le _, rfl, by rw [skp_zero ha]; exact b6', b7, hw7⟩
    case round =>
      clear b6' b7 hw7
      obtain ⟨k, hk, rfl, bx1, by1, hw8⟩ := hrel
      by_cases hlt : k < N
      · go_wp2_with (go_at_call 9; refine (next_walk _ _ _ bx1).mono ?_; rintro e w9 ⟨rfl, h1, h2⟩)
        go_roundw
        case rel => exact ⟨k + 1, by omega, by go_num, by rw [← nx_skp]; exact h1, by1.keep h2 (by omega), hw8.trans (h2.below hbx' hw8.size)⟩
        case measure => simp [intOf]; omega
      · obtain rfl : k = N := by omega
        go_wp2_with fail
        refine (skip_walk _ k _ _ by1).mono ?_; rintro e w9 ⟨rfl, by2, o9⟩
        have bx2 := bx1.keep o9 (by omega)
        have hw9 := hw8.trans (o9.below (by omega) hw8.size)
        clear bx1 by1 hw8 o9
        go_wp2_with fail
        refine (state_walk _ _ _ bx2).mono ?_; rintro e w10 ⟨rfl, rfl⟩
        go_wp2_with fail
        refine (state_walk _ _ _ by2).mono ?_; rintro e w10 ⟨rfl, rfl⟩
        go_wp2_with fail
        refine (next_walk _ _ _ bx2).mono ?_; rintro e w10 ⟨rfl, bx3, o10⟩
        have by3 := by2.keep o10 (by omega)
        have hw10 := hw9.trans (o10.below hbx' hw9.size)
        clear bx2 by2 hw9 o10
        go_wp2_with fail
        refine (next_walk _ _ _ by3).mono ?_; rintro e w11 ⟨rfl, by4, o11⟩
        have bx4 := bx3.keep o11 (by omega)
        have hw11 := hw10.trans (o11.below (by omega) hw10.size)
        clear bx3 by3 hw10 o11
        go_wp2_with fail
        refine (skip_walk _ p _ _ bx4).mono ?_; rintro e w12 ⟨rfl, bx5, o12⟩
        have by5 := by4.keep o12 (by omega)
        have hw12 := hw11.trans (o12.below hbx' hw11.size)
        clear bx4 by4 hw11 o12
        go_wp2_with fail
        refine (skip_walk _ q _ _ bx5).mono ?_; rintro e w13 ⟨rfl, bx6, o13⟩
        have by6 := by5.keep o13 (by omega)
        have hw13 := hw12.trans (o13.below hbx' hw12.size)
        clear bx5 by5 hw12 o13
        go_wp2_with fail
        refine (skip_walk _ pq _ _ by6).mono ?_; rintro e w14 ⟨rfl, by7, o14⟩
        have bx7 := bx6.keep o14 (by omega)
        have hw14 := hw13.trans (o14.below (by omega) hw13.size)
        clear bx6 by6 hw13 o14
        rw [skp_skp] at bx7
        rw [HPQ.out] at by7
        have hu : skp (nx (skp a k)) (p + q) < 2 ^ 64 := skp_lt _ _
        generalize skp (nx (skp a k)) (p + q) = u at *
        have hbe : (FloatKind.f64.format.order (bellF u) (bellF u) == some Ordering.eq) = true := by rw [fmt64, beq_iff_eq]; exact o_self.2 (bell_fin u)
        go_wp2_with fail
        refine (state_walk _ _ _ by7).mono ?_; rintro e w15 ⟨rfl, rfl⟩
        go_wp2_with fail
        refine (new_walk u _).mono ?_; rintro e w16 ⟨rfl, bz1, o16, z16⟩
        have bx8 := bx7.stay o16
        have by8 := by7.stay o16
        have hw16 := hw14.trans (o16.mono hw14.size)
        have hzx := bx7.lt
        have hzy := by7.lt
        obtain ⟨bz, hbz⟩ : ∃ bz, bz = w14.heap.size := ⟨_, rfl⟩
        have hz0 := hw14.size
        rw [← hbz] at bz1 hzx hzy hz0 ⊢
        clear bx7 by7 hw14 o16 z16 hbz
        go_wp2_with fail
        refine (state_walk _ _ _ bx8).mono ?_; rintro e w17 ⟨rfl, rfl⟩
        go_wp2_with fail
        refine (state_walk _ _ _ by8).mono ?_; rintro e w17 ⟨rfl, rfl⟩
        go_wp2_with fail
        refine (bell_walk _ _ _ hu bz1).mono ?_; rintro e w17 ⟨rfl, bz2, o17⟩
        have bx9 := bx8.keep o17 (by omega)
        have hw17 := hw16.trans (o17.below (by omega) hw16.size)
        clear bx8 by8 hw16 o17 bz1
        go_wp2_with fail
        refine (bell_walk _ _ _ hu bx9).mono ?_; rintro e w18 ⟨rfl, bx10, o18⟩
        have bz3 := bz2.keep o18 (by omega)
        have hw18 := hw17.trans (o18.below hbx' hw17.size)
        clear bx9 bz2 hw17 o18
        go_wp2_with fail
        refine (next_walk _ _ _ bz3).mono ?_; rintro e w19 ⟨rfl, bz4, o19⟩
        have bx11 := bx10.keep o19 (by omega)
        have hw19 := hw18.trans (o19.below (by omega) hw18.size)
        clear bx10 bz3 hw18 o19
        go_wp2_with fail
        refine (next_walk _ _ _ bx11).mono ?_; rintro e w20 ⟨rfl, _, o20⟩
        have hw20 := hw19.trans (o20.below hbx' hw19.size)
        go_wp2_with fail
        go_ret
        exact ⟨rfl, hw20⟩

theorem leaps_args (W : World) (base : Nat) (args : Array Value) (hsz : args.size = Try.f3.params.size) (hval : ∀ (j : Nat) t v, Try.f3.params[j]? = some t → args[j]? = some v → Value.okWide Try.prog W .any base t v) :
    Calls Try.prog 3 args W (fun e w' => e = .returned (.bool true) ∧ Below W.heap.size W w') := by
  rw [Try.params3] at hval hsz
  obtain ⟨l⟩ := args
  match l, hsz with
  | [v0, v1, v2, v3, v4], _ =>
    obtain ⟨a, rfl, a1, a2⟩ := ok_int Try.underlying22 (hval 0 22 v0 rfl rfl)
    obtain ⟨b, rfl, b1, b2⟩ := ok_int Try.underlying22 (hval 1 22 v1 rfl rfl)
    obtain ⟨n, rfl, n1, n2⟩ := ok_int Try.underlying3 (hval 2 3 v2 rfl rfl)
    obtain ⟨p, rfl, p1, p2⟩ := ok_int Try.underlying22 (hval 3 22 v3 rfl rfl)
    obtain ⟨q, rfl, q1, q2⟩ := ok_int Try.underlying22 (hval 4 22 v4 rfl rfl)
    have e1 : IntKind.u64.min = 0 := by decide
    have e2 : IntKind.u64.max = 18446744073709551615 := by decide
    have e3 : IntKind.i64.min = -9223372036854775808 := by decide
    have e4 : IntKind.i64.max = 9223372036854775807 := by decide
    rw [e1] at a1 b1 p1 q1
    rw [e2] at a2 b2 p2 q2
    rw [e3] at n1
    rw [e4] at n2
    obtain ⟨a, rfl⟩ := Int.eq_ofNat_of_zero_le a1
    obtain ⟨b, rfl⟩ := Int.eq_ofNat_of_zero_le b1
    obtain ⟨p, rfl⟩ := Int.eq_ofNat_of_zero_le p1
    obtain ⟨q, rfl⟩ := Int.eq_ofNat_of_zero_le q1
    exact leaps_law a b p q n W (by omega) (by omega) (by omega) (by omega) n1 n2

set_option maxRecDepth 100000 in
theorem leaps_lifted (os : Os) (started : os.Started) (H : Type) (enc : TypeId × Value → H) :
    ReturnsInHanded {} Try.checked os 3 .any (Rows.noiseLeapsSpec.pre6 enc Try.prog Try.f3 Rows.noiseLeapsRow.domain false) (Rows.noiseLeapsSpec.post enc Try.prog Try.f3 false true false false) :=
  law_lifted (C := Try.checked) Try.own started (by kernel_rfl) Try.func3
    (ChangeSpec.witness6 (enc := enc) (C := Try.checked) false ⟨#[], #[.int .u64 0, .int .u64 0, .int .i64 0, .int .u64 0, .int .u64 0], []⟩ 8 (by kernel_rfl) (by kernel_rfl) (by kernel_rfl) (by kernel_rfl))
    Try.laidOut (fun t ht => by have ht2 : t ∈ Try.f3.params.toList := ht; rw [Try.params3] at ht2; simp only [List.mem_cons, List.not_mem_nil, or_false] at ht2; rcases ht2 with rfl | rfl | rfl | rfl | rfl <;> exact ⟨by kernel_rfl, of_decide_eq_true (by kernel_rfl)⟩)
    rfl Try.underlying4 rfl (fun ds hd => by have hd2 : ds.length = Try.f3.params.size := hd; rw [Try.params3] at hd2; match ds, hd2 with | [d1, d2, d3, d4, d5], _ => exact ⟨rfl, rfl, rfl⟩) leaps_args

theorem leaps_holds : Rows.NoiseLeapsSaid :=
  OpenClaim.holds_of_wide 3 Try.f3 rfl rfl rfl rfl rfl rfl rfl ⟨rfl, rfl, rfl, rfl, rfl⟩ rfl rfl rfl rfl rfl (by kernel_rfl) Try.func3 (by kernel_rfl)
    (of_decide_eq_true (by kernel_rfl)) (by unfold Func.isWrapper; first | (rw [if_pos (by decide +kernel)]; kernel_rfl) | (rw [if_neg (by decide +kernel)]; exact ⟨rfl, rfl⟩))
    (fun os started H enc _ => leaps_lifted os started H enc)
#print axioms leaps_holds
end Go.Proofs.Ythdpkmdkoldneaa
