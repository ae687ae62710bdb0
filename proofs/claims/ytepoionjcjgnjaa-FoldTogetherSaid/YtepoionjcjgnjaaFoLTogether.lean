/-
  What is proved: for every list of remainders and every list of moduli the law FoldTogether returns true, and its arguments read as before. No conditions.
-/
import Derived.Test.YtepoionjcjgnjaaFoK
import Derived.Test.YtepoionjcjgnjaaFlL
import Derived.Deep.QuietTactic
import Derived.Test.YtepoionjcjgnjaaFlS
import Derived.Test.YtepoionjcjgnjaaRows
import Derived.ProofKit
import Derived.OpenShut
set_option autoImplicit false
set_option linter.unusedVariables false
namespace Go.Proofs.Ytepoionjcjgnjaa
open Go.RowKit Go.ChangeShapes Go.WideShapes Go.ChangeAt Lk Fo
theorem Try.own : ownKnob Try.prog.godebug = none := by kernel_rfl
theorem Try.laidOut : laidOutB Try.prog = true := by kernel_rfl
structure TX (x r m : Int) (f : FuncId) (args : Array Value) (u : Value) (w : World) : Prop where
  a : f = 24 → args = #[.int .i64 x, .int .i64 m] → u = .int .i64 (x % m)
  b : f = 24 → args = #[.int .i64 r, .int .i64 m] → u = .int .i64 (r % m)
theorem tx_a {x r m : Int} (r1 : -9223372036854775808 ≤ x) (r2 : x ≤ 9223372036854775807) (m1 : 1 ≤ m) (m2 : m ≤ 9223372036854775807) (w : World) : Calls Try.prog 24 #[.int .i64 x, .int .i64 m] w (fun e' w'' => ∃ u, e' = .returned u ∧ TX x r m 24 #[.int .i64 x, .int .i64 m] u w'' ∧ Ext w w'') :=
  (lmod_walk x m w r1 r2 m1 m2).mono fun e' w' ⟨he, hb⟩ => ⟨_, he, ⟨fun _ _ => rfl, fun _ h => by simp at h; rw [h]⟩, by rw [← hb]; exact Ext.refl _⟩
theorem tx_b {x r m : Int} (r1 : -9223372036854775808 ≤ r) (r2 : r ≤ 9223372036854775807) (m1 : 1 ≤ m) (m2 : m ≤ 9223372036854775807) (w : World) : Calls Try.prog 24 #[.int .i64 r, .int .i64 m] w (fun e' w'' => ∃ u, e' = .returned u ∧ TX x r m 24 #[.int .i64 r, .int .i64 m] u w'' ∧ Ext w w'') :=
  (lmod_walk r m w r1 r2 m1 m2).mono fun e' w' ⟨he, hb⟩ => ⟨_, he, ⟨fun _ h => by simp at h; rw [h], fun _ _ => rfl⟩, by rw [← hb]; exact Ext.refl _⟩
theorem zip_get {R L : List Int} {r m : Int} (h : (r, m) ∈ R.zip L) : ∃ k : Nat, R[k]? = some r ∧ L[k]? = some m := by
  obtain ⟨k, hk⟩ := List.getElem?_of_mem h
  rw [List.getElem?_zip_eq_some] at hk
  exact ⟨k, hk⟩
theorem zip_mem {R L : List Int} {k : Nat} {r m : Int} (h1 : R[k]? = some r) (h2 : L[k]? = some m) : (r, m) ∈ R.zip L := List.mem_of_getElem? (zip_at h1 h2)
/-- what is refused as unlike has no number -/
theorem unlike_none {R L : List Int} (y : Int) (hz : ∀ (k : Nat) (r m : Int), R[k]? = some r → L[k]? = some m → y % m = r % m) : (jn (R.zip L) 0 1).2.2 ≠ 100 :=
  jn_from y _ 0 1 (by omega) (by omega) (by omega) (by omega) fun r m h => by obtain ⟨k, h1, h2⟩ := zip_get h; exact hz k r m h1 h2
theorem unlike_two {R L : List Int} (h : (jn (R.zip L) 0 1).2.2 = 100) : 2 ≤ min L.length R.length := by
  rcases R with _ | ⟨r, R⟩
  · exact absurd h (unlike_none 0 (fun k r m h => by simp at h))
  · rcases L with _ | ⟨m, L⟩
    · exact absurd h (unlike_none 0 (fun k r m _ h => by simp at h))
    · rcases R with _ | ⟨r', R⟩
      · exact absurd h (unlike_none r (fun k r1 m1 h1 h2 => by
          rcases k with _ | k
          · simp at h1; rw [h1]
          · simp at h1))
      · rcases L with _ | ⟨m', L⟩
        · exact absurd h (unlike_none r (fun k r1 m1 h1 h2 => by
            rcases k with _ | k
            · simp at h1; rw [h1]
            · simp at h2))
        · simp only [List.length_cons]; omega
set_option maxRecDepth 100000 in
set_option maxHeartbeats 8000000 in
theorem together_law (a1 : Option Addr) (n1 c1 : Nat) (R : List Int) (a : Option Addr) (n cap : Nat) (M : List Int) (w : World) (s1 : Sl w a1 n1 c1 R) (s : Sl w a n cap M) :
    Calls Try.prog 8 #[.slice a1 n1 c1, .slice a n cap] w (fun e w' => e = .returned (.bool true) ∧ Below w.heap.size w w') := by
  go_enter Try.func8, Try.ntmps8
  go_wp2_with fail
  refine (moduli_walk a n cap M w s).mono ?_; rintro e w1 ⟨v, rfl, ho, b1⟩
  obtain ⟨q, hq⟩ : ∃ q, q = min n 5 := ⟨_, rfl⟩
  obtain ⟨L, hL⟩ : ∃ L, L = mL (M.take 5) := ⟨_, rfl⟩
  have hm : ∀ m ∈ L, 1 ≤ m ∧ m ≤ 4096 := by rw [hL]; exact mL_range
  rw [← hq, ← hL] at ho
  have q5 : q ≤ 5 := by omega
  clear hq hL s
  obtain ⟨a2, cap2, rfl, sl⟩ := sl_owns ho (by omega) (fun y hy => by have := hm y hy; omega)
  have HM := Lib.hid hm
  have SL := Lib.hid sl
  have QL := Lib.hid sl.len
  have S1 := Lib.hid (s1.keep b1)
  have RL := Lib.hid s1.len
  have B1 := Lib.hid b1
  clear ho sl b1 hm s1
  have hif := lt_min (n1 := q) (n2 := n1)
  obtain ⟨kk, hkk⟩ : ∃ kk, kk = min q n1 := ⟨_, rfl⟩
  rw [← hkk] at hif
  have HK := Lib.hid hkk
  clear hkk
  have JD := Lib.hid (jd_of (R := R) (M := L) (by rw [QL.out]; omega) HM.out)
  have JW := Lib.hid (joinW_small (R := R) (M := L) (by rw [QL.out]; omega))
  go_wp2_with fail
  refine (join_walk 4294967296 divOk_small (by omega) _ _ n1 q c1 cap2 R L _ S1.out SL.out (fun m hm => .inl (by have := HM.out m hm; omega))).mono ?_; rintro e w3 ⟨rfl, b3⟩
  rw [JW.out]
  have SL3 := Lib.hid (SL.out.keep b3)
  have S3 := Lib.hid (S1.out.keep b3)
  have B3 := Lib.hid (B1.out.trans (b3.mono B1.out.size))
  clear b3 SL S1 B1 hif
  obtain ⟨T, hT⟩ : ∃ T, jn (R.zip L) 0 1 = T := ⟨_, rfl⟩
  rw [hT]
  have HT := Lib.hid hT
  clear hT
  obtain ⟨x, all, e⟩ := T
  have he : e = 0 ∨ e = 100 := by have := JD.out.codes; rw [HT.out] at this; exact this
  have kq : kk ≤ 5 := by have := HK.out; omega
  rcases he with rfl | rfl
  · obtain ⟨o1, o2, o3, _, _, o6⟩ := jn_ok (R.zip L) 0 1 (by omega) (by omega) (by omega) (by rw [HT.out])
    rw [HT.out] at o1 o2 o3 o6
    simp only at o1 o2 o3 o6
    have O6 := Lib.hid o6
    clear o6
    go_wp2_with fail
    go_loopw [10] (fun i wr => ∃ k : Nat, k ≤ kk ∧ i = .int .i64 k ∧ Below w3.heap.size w3 wr) (fun i _ => kk - (intOf i).toNat)
    case atStart => exact ⟨0, Nat.zero_le _, rfl, Below.refl _ _⟩
    case round =>
      obtain ⟨k, hk, rfl, hb⟩ := hrel
      have HB := Lib.hid hb
      have zz := hb.size
      clear hb
      by_cases hlt : k < kk
      · have hk64 : (k : Int) < (kk : Int) := by omega
        have q1 : (k : Int) < (n1 : Int) := by have := HK.out; omega
        have q2 : (k : Int) < (q : Int) := by have := HK.out; omega
        obtain ⟨b1, o1', r, rfl, hb1, e1, d1, r1, r2⟩ := (S3.out.keep HB.out).at (k := k) (by omega)
        obtain ⟨b2, o2', m, rfl, hb2, e2, d2, m1, m2⟩ := (SL3.out.keep HB.out).at (k := k) (by omega)
        obtain ⟨p1, p2⟩ := O6.out r m (zip_mem e1 e2)
        have hmm := HM.out m (List.mem_of_getElem? e2)
        have t1 : all.tmod m = 0 := Int.tmod_eq_zero_of_dvd p1
        have X0 : ¬ m = 0 := by omega
        clear e1 e2 p1
        go_wp2_with fail
        refine wp_region_G (TX x r m) (by kernel_rfl) (by kernel_rfl) ?_
        repeat' (refine wpG_step' (fun K hA hK => ?_); go_simp; first | (refine bothG_value hA (v := ?_) (fun w' hw' => ?_) ?_; rotate_left; (· go_simp; rfl); (refine hK _ _ ?_; clear hK hA K)) | (refine bothG_call (f := 24) (args := ?_) (fun w' => ?_) (fun w' _ => ?_) ?_; rotate_left; (· go_simp; rfl); (· exact tx_a (by omega) (by omega) (by omega) m2 _); (intro u xw hu; obtain rfl := hu.a rfl rfl; clear hu; refine hK _ _ ?_; clear hK hA K)) | (refine bothG_call (f := 24) (args := ?_) (fun w' => ?_) (fun w' _ => ?_) ?_; rotate_left; (· go_simp; rfl); (· exact tx_b r1 r2 (by omega) m2 _); (intro u xw hu; obtain rfl := hu.b rfl rfl; clear hu; refine hK _ _ ?_; clear hK hA K)))
        refine wpG_nil ?_
        intro w5 hb5 hF
        have HB5 := Lib.hid (HB.out.trans (hb5.mono zz))
        clear hF hb5 HB d1 d2
        go_wp2_with fail
        go_roundw
        case rel => exact ⟨k + 1, by omega, by go_num, HB5.out⟩
        case measure => simp [intOf]; omega
      · obtain rfl : k = kk := by omega
        go_wp2_with fail
        refine (wakes_walk _).mono ?_; rintro e w6 ⟨rfl, b6⟩
        have B6 : Hid (Below w.heap.size w w6) := Lib.hid (B3.out.trans ((HB.out.trans (b6.mono zz)).mono B3.out.size))
        clear b6
        go_wp2_with fail
        go_ret
        exact ⟨rfl, B6.out⟩
  · obtain ⟨z1, z2⟩ := jn_bad0 (R.zip L) 0 1 (by rw [HT.out]; show (100 : Int) ≠ 0; decide)
    rw [HT.out] at z1 z2
    simp only at z1 z2
    subst z1 z2
    have k2 : 2 ≤ kk := by
      have := unlike_two (R := R) (L := L) (by rw [HT.out])
      have := HK.out
      have := QL.out
      have := RL.out
      omega
    have NO : Hid (∀ y : Int, ¬ ∀ (k : Nat) (r m : Int), R[k]? = some r → L[k]? = some m → y % m = r % m) := Lib.hid (fun y h => unlike_none y h (by rw [HT.out]))
    go_wp2_with fail
    go_loopw [11, 12] (fun sz i wr => ∃ (k : Nat) (z : Int), k ≤ kk ∧ i = .int .i64 k ∧ sz = .int .i64 z ∧ (1 ≤ z ∧ z ≤ 268435456) ∧ wr = w3) (fun _ i _ => kk - (intOf i).toNat)
    case atStart => exact ⟨0, 1, Nat.zero_le _, rfl, rfl, by omega, rfl⟩
    case round =>
      obtain ⟨k, z, hk, rfl, rfl, ⟨z1, z2⟩, hw3⟩ := hrel
      replace hw3 := hw3.symm
      subst hw3
      have fin : ∀ (hstop : True), True := fun _ => trivial
      by_cases hgo : k < kk ∧ z ≤ 65536
      · obtain ⟨hlt, hz⟩ := hgo
        have hk64 : (k : Int) < (kk : Int) := by omega
        have q2 : (k : Int) < (q : Int) := by have := HK.out; omega
        obtain ⟨b2, o2', m, rfl, hb2, e2, d2, m1, m2⟩ := SL3.out.at (k := k) (by omega)
        have hmm := HM.out m (List.mem_of_getElem? e2)
        have p1 : z * m ≤ 65536 * m := Int.mul_le_mul_of_nonneg_right hz (by omega)
        have p2 : z * 1 ≤ z * m := Int.mul_le_mul_of_nonneg_left (by omega) (by omega)
        have hw : wrap64 (z * m) = z * m := wrap_self (by omega) (by omega)
        clear e2
        go_wp2_with fail
        go_roundw
        case rel => exact ⟨k + 1, z * m, by omega, by go_num, by first | rfl | rw [hw], by omega, trivial⟩
        case measure => simp [intOf]; omega
      · have HG := Lib.hid hgo
        clear hgo
        by_cases hlt : k < kk
        · have hz : ¬ z ≤ 65536 := fun h => HG.out ⟨hlt, h⟩
          have hk64 : (k : Int) < (kk : Int) := by omega
          go_wp2_with fail
          go_loopw [13] (fun i wr => ∃ y : Int, i = .int .i64 y ∧ 0 ≤ y ∧ y ≤ z ∧ Below w3.heap.size w3 wr) (fun i _ => z.toNat - (intOf i).toNat)
          case atStart => exact ⟨0, rfl, by omega, by omega, Below.refl _ _⟩
          case round =>
            obtain ⟨y, rfl, y0, y1, hb⟩ := hrel
            have HB := Lib.hid hb
            have zz := hb.size
            clear hb
            by_cases hy : y < z
            · by_cases hz9 : z ≤ 65536
              · go_wp2_with fail
                go_loopw [14, 15] (fun b i wr2 => ∃ (j : Nat) (c : Bool), j ≤ kk ∧ i = .int .i64 j ∧ b = .bool c ∧ (c = true → ∀ (k : Nat) (r m : Int), k < j → R[k]? = some r → L[k]? = some m → y % m = r % m) ∧ Below wr.heap.size wr wr2) (fun _ i _ => kk - (intOf i).toNat)
                case atStart => exact ⟨0, true, Nat.zero_le _, rfl, rfl, (fun _ k r m hk => absurd hk (Nat.not_lt_zero _)), Below.refl _ _⟩
                case round =>
                  obtain ⟨j, c, hj, rfl, rfl, hc, hb2⟩ := hrel
                  have HC := Lib.hid hc
                  have HB2 := Lib.hid hb2
                  have zz2 := hb2.size
                  clear hc hb2
                  by_cases hlt : j < kk
                  · have hj64 : (j : Int) < (kk : Int) := by omega
                    cases c with
                    | false =>
                      go_wp2_with fail
                      go_quiet (fail)
                      have HB5 := Lib.hid (below_drewN HB2.out 0)
                      go_wp2_with fail
                      go_roundw
                      case rel => exact ⟨j + 1, false, by omega, by go_num, rfl, (fun h => absurd h (by decide)), by first | exact HB2.out | exact below_drewN HB2.out _⟩
                      case measure => simp [intOf]; omega
                    | true =>
                      have q1 : (j : Int) < (n1 : Int) := by have := HK.out; omega
                      have q2 : (j : Int) < (q : Int) := by have := HK.out; omega
                      obtain ⟨b1, o1', r, rfl, hbb1, e1, d1, r1, r2⟩ := (S3.out.keep (HB.out.trans (HB2.out.mono zz))).at (k := j) (by omega)
                      obtain ⟨b2, o2', m, rfl, hbb2, e2, d2, m1, m2⟩ := (SL3.out.keep (HB.out.trans (HB2.out.mono zz))).at (k := j) (by omega)
                      have hmm := HM.out m (List.mem_of_getElem? e2)
                      have E1 := Lib.hid e1
                      have E2 := Lib.hid e2
                      clear e1 e2
                      go_wp2_with fail
                      refine wp_region_G (TX y r m) (by kernel_rfl) (by kernel_rfl) ?_
                      repeat' (refine wpG_step' (fun K hA hK => ?_); go_simp; first | (refine bothG_value hA (v := ?_) (fun w' hw' => ?_) ?_; rotate_left; (· go_simp; rfl); (refine hK _ _ ?_; clear hK hA K)) | (refine bothG_call (f := 24) (args := ?_) (fun w' => ?_) (fun w' _ => ?_) ?_; rotate_left; (· go_simp; rfl); (· exact tx_a (by omega) (by omega) (by omega) m2 _); (intro u xw hu; obtain rfl := hu.a rfl rfl; clear hu; refine hK _ _ ?_; clear hK hA K)) | (refine bothG_call (f := 24) (args := ?_) (fun w' => ?_) (fun w' _ => ?_) ?_; rotate_left; (· go_simp; rfl); (· exact tx_b r1 r2 (by omega) m2 _); (intro u xw hu; obtain rfl := hu.b rfl rfl; clear hu; refine hK _ _ ?_; clear hK hA K)))
                      refine wpG_nil ?_
                      intro w5 hb5 hF
                      have HB5 := Lib.hid (HB2.out.trans (hb5.mono zz2))
                      clear hF hb5 d1 d2
                      go_wp2_with fail
                      go_roundw
                      case rel =>
                        refine ⟨j + 1, (y % m == r % m), by omega, by go_num, rfl, fun h k r' m' hk h1 h2 => ?_, HB5.out⟩
                        have h := eq_of_beq h
                        by_cases hkj : k = j
                        · subst hkj
                          rw [E1.out] at h1; rw [E2.out] at h2
                          cases h1; cases h2
                          exact h
                        · exact HC.out (by first | rfl | trivial) k r' m' (by omega) h1 h2
                      case measure => simp [intOf]; omega
                  · obtain rfl : j = kk := by omega
                    cases c with
                    | true =>
                      exfalso
                      refine NO.out y (fun k r m h1 h2 => HC.out rfl k r m ?_ h1 h2)
                      have g1 := (List.getElem?_eq_some_iff.1 h1).1
                      have g2 := (List.getElem?_eq_some_iff.1 h2).1
                      have := HK.out
                      have := QL.out
                      have := RL.out
                      omega
                    | false =>
                      have HB6 := Lib.hid (HB.out.trans (HB2.out.mono zz))
                      go_wp2_with fail
                      go_roundw
                      case rel => exact ⟨y + 1, by go_num, by omega, by omega, HB6.out⟩
                      case measure => simp [intOf]; omega
              · go_wp2_with fail
                refine (wakes_walk _).mono ?_; rintro e w6 ⟨rfl, b6⟩
                have B6 : Hid (Below w.heap.size w w6) := Lib.hid (B3.out.trans ((HB.out.trans (b6.mono zz)).mono B3.out.size))
                clear b6
                go_wp2_with fail
                go_ret
                exact ⟨rfl, B6.out⟩
            · go_wp2_with fail
              refine (wakes_walk _).mono ?_; rintro e w6 ⟨rfl, b6⟩
              have B6 : Hid (Below w.heap.size w w6) := Lib.hid (B3.out.trans ((HB.out.trans (b6.mono zz)).mono B3.out.size))
              clear b6
              go_wp2_with fail
              go_ret
              exact ⟨rfl, B6.out⟩
        · have hk64 : ¬ (k : Int) < (kk : Int) := by omega
          go_wp2_with fail
          go_loopw [13] (fun i wr => ∃ y : Int, i = .int .i64 y ∧ 0 ≤ y ∧ y ≤ z ∧ Below w3.heap.size w3 wr) (fun i _ => z.toNat - (intOf i).toNat)
          case atStart => exact ⟨0, rfl, by omega, by omega, Below.refl _ _⟩
          case round =>
            obtain ⟨y, rfl, y0, y1, hb⟩ := hrel
            have HB := Lib.hid hb
            have zz := hb.size
            clear hb
            by_cases hy : y < z
            · by_cases hz9 : z ≤ 65536
              · go_wp2_with fail
                go_loopw [14, 15] (fun b i wr2 => ∃ (j : Nat) (c : Bool), j ≤ kk ∧ i = .int .i64 j ∧ b = .bool c ∧ (c = true → ∀ (k : Nat) (r m : Int), k < j → R[k]? = some r → L[k]? = some m → y % m = r % m) ∧ Below wr.heap.size wr wr2) (fun _ i _ => kk - (intOf i).toNat)
                case atStart => exact ⟨0, true, Nat.zero_le _, rfl, rfl, (fun _ k r m hk => absurd hk (Nat.not_lt_zero _)), Below.refl _ _⟩
                case round =>
                  obtain ⟨j, c, hj, rfl, rfl, hc, hb2⟩ := hrel
                  have HC := Lib.hid hc
                  have HB2 := Lib.hid hb2
                  have zz2 := hb2.size
                  clear hc hb2
                  by_cases hlt : j < kk
                  · have hj64 : (j : Int) < (kk : Int) := by omega
                    cases c with
                    | false =>
                      go_wp2_with fail
                      go_quiet (fail)
                      have HB5 := Lib.hid (below_drewN HB2.out 0)
                      go_wp2_with fail
                      go_roundw
                      case rel => exact ⟨j + 1, false, by omega, by go_num, rfl, (fun h => absurd h (by decide)), by first | exact HB2.out | exact below_drewN HB2.out _⟩
                      case measure => simp [intOf]; omega
                    | true =>
                      have q1 : (j : Int) < (n1 : Int) := by have := HK.out; omega
                      have q2 : (j : Int) < (q : Int) := by have := HK.out; omega
                      obtain ⟨b1, o1', r, rfl, hbb1, e1, d1, r1, r2⟩ := (S3.out.keep (HB.out.trans (HB2.out.mono zz))).at (k := j) (by omega)
                      obtain ⟨b2, o2', m, rfl, hbb2, e2, d2, m1, m2⟩ := (SL3.out.keep (HB.out.trans (HB2.out.mono zz))).at (k := j) (by omega)
                      have hmm := HM.out m (List.mem_of_getElem? e2)
                      have E1 := Lib.hid e1
                      have E2 := Lib.hid e2
                      clear e1 e2
                      go_wp2_with fail
                      refine wp_region_G (TX y r m) (by kernel_rfl) (by kernel_rfl) ?_
                      repeat' (refine wpG_step' (fun K hA hK => ?_); go_simp; first | (refine bothG_value hA (v := ?_) (fun w' hw' => ?_) ?_; rotate_left; (· go_simp; rfl); (refine hK _ _ ?_; clear hK hA K)) | (refine bothG_call (f := 24) (args := ?_) (fun w' => ?_) (fun w' _ => ?_) ?_; rotate_left; (· go_simp; rfl); (· exact tx_a (by omega) (by omega) (by omega) m2 _); (intro u xw hu; obtain rfl := hu.a rfl rfl; clear hu; refine hK _ _ ?_; clear hK hA K)) | (refine bothG_call (f := 24) (args := ?_) (fun w' => ?_) (fun w' _ => ?_) ?_; rotate_left; (· go_simp; rfl); (· exact tx_b r1 r2 (by omega) m2 _); (intro u xw hu; obtain rfl := hu.b rfl rfl; clear hu; refine hK _ _ ?_; clear hK hA K)))
                      refine wpG_nil ?_
                      intro w5 hb5 hF
                      have HB5 := Lib.hid (HB2.out.trans (hb5.mono zz2))
                      clear hF hb5 d1 d2
                      go_wp2_with fail
                      go_roundw
                      case rel =>
                        refine ⟨j + 1, (y % m == r % m), by omega, by go_num, rfl, fun h k r' m' hk h1 h2 => ?_, HB5.out⟩
                        have h := eq_of_beq h
                        by_cases hkj : k = j
                        · subst hkj
                          rw [E1.out] at h1; rw [E2.out] at h2
                          cases h1; cases h2
                          exact h
                        · exact HC.out (by first | rfl | trivial) k r' m' (by omega) h1 h2
                      case measure => simp [intOf]; omega
                  · obtain rfl : j = kk := by omega
                    cases c with
                    | true =>
                      exfalso
                      refine NO.out y (fun k r m h1 h2 => HC.out rfl k r m ?_ h1 h2)
                      have g1 := (List.getElem?_eq_some_iff.1 h1).1
                      have g2 := (List.getElem?_eq_some_iff.1 h2).1
                      have := HK.out
                      have := QL.out
                      have := RL.out
                      omega
                    | false =>
                      have HB6 := Lib.hid (HB.out.trans (HB2.out.mono zz))
                      go_wp2_with fail
                      go_roundw
                      case rel => exact ⟨y + 1, by go_num, by omega, by omega, HB6.out⟩
                      case measure => simp [intOf]; omega
              · go_wp2_with fail
                refine (wakes_walk _).mono ?_; rintro e w6 ⟨rfl, b6⟩
                have B6 : Hid (Below w.heap.size w w6) := Lib.hid (B3.out.trans ((HB.out.trans (b6.mono zz)).mono B3.out.size))
                clear b6
                go_wp2_with fail
                go_ret
                exact ⟨rfl, B6.out⟩
            · go_wp2_with fail
              refine (wakes_walk _).mono ?_; rintro e w6 ⟨rfl, b6⟩
              have B6 : Hid (Below w.heap.size w w6) := Lib.hid (B3.out.trans ((HB.out.trans (b6.mono zz)).mono B3.out.size))
              clear b6
              go_wp2_with fail
              go_ret
              exact ⟨rfl, B6.out⟩
theorem together_args (W : World) (base : Nat) (args : Array Value) (hsz : args.size = Try.f8.params.size) (hval : ∀ (j : Nat) t v, Try.f8.params[j]? = some t → args[j]? = some v → Value.okWide Try.prog W .any base t v) (hrd : ∀ (j : Nat) t v, Try.f8.params[j]? = some t → args[j]? = some v → Rd Try.prog W t v.cells.toList) :
    Calls Try.prog 8 args W (fun e w' => e = .returned (.bool true) ∧ Below W.heap.size W w') := by
  rw [Try.params8] at hval hsz hrd
  obtain ⟨l⟩ := args
  match l, hsz with
  | [v0, v1], _ =>
    obtain ⟨a0, n0, c0, M0, rfl, s0⟩ := sl_arg (hval 0 27 v0 rfl rfl) (hrd 0 27 v0 rfl rfl)
    obtain ⟨a1, n1, c1, M1, rfl, s1⟩ := sl_arg (hval 1 27 v1 rfl rfl) (hrd 1 27 v1 rfl rfl)
    exact together_law a0 n0 c0 M0 a1 n1 c1 M1 W s0 s1

set_option maxRecDepth 100000 in
theorem together_lifted (os : Os) (started : os.Started) (H : Type) (enc : TypeId × Value → H) :
    ReturnsInHanded {} Try.checked os 8 .any (Rows.foldTogetherSpec.pre6 enc Try.prog Try.f8 Rows.foldTogetherRow.domain false) (Rows.foldTogetherSpec.post enc Try.prog Try.f8 false true false false) :=
  law_lifted_s (C := Try.checked) Try.own started (by kernel_rfl) Try.func8
    (ChangeSpec.witness6 (enc := enc) (C := Try.checked) false ⟨#[], #[.slice none 0 0, .slice none 0 0], []⟩ 8 (by kernel_rfl) (by kernel_rfl) (by kernel_rfl) (by kernel_rfl))
    Try.laidOut (fun t ht => by have ht2 : t ∈ Try.f8.params.toList := ht; rw [Try.params8] at ht2; simp only [List.mem_cons, List.not_mem_nil, or_false, or_self] at ht2; subst ht2; exact ⟨by kernel_rfl, of_decide_eq_true (by kernel_rfl)⟩)
    rfl Try.underlying4 rfl (fun ds hd => by have hd2 : ds.length = Try.f8.params.size := hd; rw [Try.params8] at hd2; match ds, hd2 with | [d0, d1], _ => exact ⟨rfl, rfl, rfl⟩) together_args

theorem together_holds : Rows.FoldTogetherSaid :=
  OpenClaim.holds_of_wide 8 Try.f8 rfl rfl rfl rfl rfl rfl rfl ⟨rfl, rfl, rfl, rfl, rfl⟩ rfl rfl rfl rfl rfl (by kernel_rfl) Try.func8 (by kernel_rfl)
    (of_decide_eq_true (by kernel_rfl)) (by unfold Func.isWrapper; first | (rw [if_pos (by decide +kernel)]; kernel_rfl) | (rw [if_neg (by decide +kernel)]; exact ⟨rfl, rfl⟩))
    (fun os started H enc _ => together_lifted os started H enc)
#print axioms together_holds
end Go.Proofs.Ytepoionjcjgnjaa
