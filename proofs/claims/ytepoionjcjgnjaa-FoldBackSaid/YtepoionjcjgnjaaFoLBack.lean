/-
  What is proved: for every number and every list of moduli the law FoldBack returns true, and its arguments read as before. No conditions.
-/
import Derived.Test.YtepoionjcjgnjaaFoK
import Derived.Test.YtepoionjcjgnjaaFlL
import Derived.Test.YtepoionjcjgnjaaFlS
import Derived.Test.YtepoionjcjgnjaaRows
import Derived.ProofKit
import Derived.OpenShut
set_option autoImplicit false
set_option linter.unusedVariables false
namespace Go.Proofs.Ytepoionjcjgnjaa
open Go.RowKit Go.ChangeShapes Go.WideShapes Go.ChangeAt Lk Fo
theorem Try.own : ownKnob Try.prog.godebug = none := by kernel_rfl
theorem Try.laidOut : laidOutB Try.prog = true := by kernel_rfl
def lst (q : Nat) (R : Nat → Int) : List Int := (List.range q).map R
theorem lst_len (q : Nat) (R : Nat → Int) : (lst q R).length = q := by simp [lst]
theorem lst_at {q k : Nat} {R : Nat → Int} {r : Int} (h : (lst q R)[k]? = some r) : r = R k ∧ k < q := by
  have hk : k < q := by have := (List.getElem?_eq_some_iff.1 h).1; rwa [lst_len] at this
  simp [lst, hk] at h
  exact ⟨h.symm, hk⟩
theorem sl_row {w : World} {g q : Nat} {R : Nat → Int} (h : w.rowIs g 2 q (fun j => .int .i64 (R j))) (hs : q ≤ 5) (hr : ∀ j, j < q → -9223372036854775808 ≤ R j ∧ R j ≤ 9223372036854775807) : Sl w (some ⟨g, 0, none⟩) q q (lst q R) :=
  ⟨lst_len q R, Nat.le_refl _, by omega, fun x hx => by
    obtain ⟨j, hj, rfl⟩ := List.mem_map.1 hx
    exact hr j (List.mem_range.1 hj), .inr ⟨g, 0, rfl, h.lt, fun j hj => by
    rw [lst_len] at hj
    rw [Nat.zero_add, h.cell hj]
    simp [lst]⟩⟩
theorem at_getD {L : List Int} {k : Nat} {m : Int} (h : L[k]? = some m) : L.getD k 0 = m := by simp [List.getD, h]
theorem back_row {L : List Int} (x : Int) (c : Int) (h5 : L.length ≤ 5) (hm : ∀ m ∈ L, 1 ≤ m ∧ m ≤ 4096) (x0 : 0 ≤ x) (x1 : x < lc L 1) :
    joinW (lst L.length fun j => x % L.getD j 0 + c * L.getD j 0) L = (x, lc L 1, 0) := by
  obtain ⟨e, _⟩ := back_of (R := lst L.length fun j => x % L.getD j 0 + c * L.getD j 0) (M := L) x h5 (lst_len _ _) hm (fun k r m hr hk => by
    obtain ⟨rfl, _⟩ := lst_at hr
    rw [at_getD hk, Int.add_mul_emod_self_right, Int.emod_emod_of_dvd _ (Int.dvd_refl m)])
  rw [e, Int.emod_eq_of_lt x0 x1]
set_option maxRecDepth 100000 in
set_option maxHeartbeats 8000000 in
theorem back_law (x : Int) (a : Option Addr) (n cap : Nat) (M : List Int) (w : World) (f1 : -9223372036854775808 ≤ x) (f2 : x ≤ 9223372036854775807) (s : Sl w a n cap M) :
    Calls Try.prog 7 #[.int .i64 x, .slice a n cap] w (fun e w' => e = .returned (.bool true) ∧ Below w.heap.size w w') := by
  go_enter Try.func7, Try.ntmps7
  go_wp2_with fail
  refine (moduli_walk a n cap M w s).mono ?_; rintro e w1 ⟨v, rfl, ho, b1⟩
  obtain ⟨q, hq⟩ : ∃ q, q = min n 5 := ⟨_, rfl⟩
  obtain ⟨L, hL⟩ : ∃ L, L = mL (M.take 5) := ⟨_, rfl⟩
  have hm : ∀ m ∈ L, 1 ≤ m ∧ m ≤ 4096 := by rw [hL]; exact mL_range
  rw [← hq, ← hL] at ho
  have q5 : q ≤ 5 := by omega
  clear hq hL s
  obtain ⟨a2, cap2, rfl, sl⟩ := sl_owns ho (by omega) (fun y hy => by have := hm y hy; omega)
  have HM := Lib.hid hm
  have SL := Lib.hid sl
  have QL := Lib.hid sl.len
  have B1 := Lib.hid b1
  clear ho sl b1 hm
  have hmk := fun w => run_make_row' (P := Try.prog) 27 2 (.int .i64 0) 8 und27 int_info rfl .i64 .i64 q (by omega) (by omega) w
  go_wp2_with fail
  clear hmk
  have r0 := World.rowIs_made w1 (.int .i64 0) q 2
  obtain ⟨W, hW⟩ : ∃ W, W = w1.alloc (.cells (madeCells #[Value.int .i64 0] q) 2) := ⟨_, rfl⟩
  have BW : Below w1.heap.size w1 W := by rw [hW]; exact (Below.refl _ _).alloc (Nat.le_refl _) _
  rw [← hW] at r0 ⊢
  clear hW
  have hz := back_of (R := lst q fun _ => 0) (M := L) 0 (by rw [QL.out]; omega) (by rw [lst_len, QL.out]) HM.out (fun k r m hr _ => by rw [(lst_at hr).1])
  obtain ⟨e0, p1, p2, p3⟩ := hz
  have P3 := Lib.hid p3
  have E0 := Lib.hid e0
  clear e0 p3
  have HR := Lib.hid r0
  have HW := Lib.hid BW
  have zW := BW.size
  clear r0 BW
  refine (join_walk 4294967296 divOk_small (by omega) _ _ q q q cap2 (lst q fun _ => 0) L _ (sl_row HR.out q5 (by simp)) (SL.out.keep HW.out) (fun m hm => .inl (by have := HM.out m hm; omega))).mono ?_; rintro e w3 ⟨rfl, b3⟩
  rw [E0.out]
  have R3 := Lib.hid (HR.out.of_block (b3.block _ HR.out.lt))
  have W3 := Lib.hid (HW.out.trans (b3.mono zW))
  have z3 := b3.size
  clear b3 HR HW E0
  obtain ⟨all, hall⟩ : ∃ all, lc L 1 = all := ⟨_, rfl⟩
  rw [hall] at p1 p2 ⊢
  have HA := Lib.hid hall
  clear hall
  go_wp2_with fail
  refine (lmod_walk x all _ f1 f2 p1 (by omega)).mono ?_; rintro e w4 ⟨rfl, rfl⟩
  have y0 := Int.emod_nonneg x (show all ≠ 0 by omega)
  have y1 := Int.emod_lt_of_pos x (show 0 < all by omega)
  generalize x % all = y at *
  go_wp2_with fail
  go_loopw [10] (fun i wr => ∃ k : Nat, k ≤ q ∧ i = .int .i64 k ∧ wr.rowIs w1.heap.size 2 q (fun j => .int .i64 (if j < k then y % L.getD j 0 + 0 * L.getD j 0 else 0)) ∧ Below w1.heap.size w1 wr) (fun i _ => q - (intOf i).toNat)
  case atStart => exact ⟨0, Nat.zero_le _, rfl, R3.out.congr (fun j hj => by simp), W3.out⟩
  case round =>
    clear R3 W3 z3
    obtain ⟨k, hk, rfl, hr, hb⟩ := hrel
    have HR := Lib.hid hr
    have HB := Lib.hid hb
    have zz := hb.size
    clear hr hb
    by_cases hlt : k < q
    · have hk64 : (k : Int) < (q : Int) := by omega
      obtain ⟨b1, o1, m, rfl, hb1, e1, d1, m1, m2⟩ := (SL.out.keep HB.out).at (k := k) hlt
      have D1 : wr.cell? ⟨b1, o1 + k, none⟩ = some (.int .i64 m) := d1
      have hmm := HM.out m (List.mem_of_getElem? e1)
      have EG := Lib.hid (at_getD e1)
      have t1 : all.tmod m = 0 := Int.tmod_eq_zero_of_dvd (by rw [← HA.out]; exact P3.out m (List.mem_of_getElem? e1))
      have t2 : y.tmod m = y % m := Int.tmod_eq_emod_of_nonneg y0
      have v0 := Int.emod_nonneg y (show m ≠ 0 by omega)
      have v1 := Int.emod_lt_of_pos y (show 0 < m by omega)
      have cR := HR.out.cell hlt
      have fR := HR.out.frozen k
      clear d1 e1
      go_wp2_with fail
      go_roundw
      case rel =>
        refine ⟨k + 1, by omega, by go_num, (HR.out.set k _).congr (fun j hj => ?_), HB.out.setCell (Nat.le_refl _) _⟩
        by_cases h : j = k
        · subst h; simp only [if_true]; rw [if_pos (by omega), EG.out, Int.zero_mul, Int.add_zero]
        · rw [if_neg h]
          by_cases h2 : j < k
          · rw [if_pos h2, if_pos (by omega)]
          · rw [if_neg h2, if_neg (by omega)]
      case measure => simp [intOf]; omega
    · obtain rfl : k = q := by omega
      go_wp2_with fail
      have LQ : L.length = k := QL.out
      have ER : ∀ j, j < k → -9223372036854775808 ≤ y % L.getD j 0 + 0 * L.getD j 0 ∧ y % L.getD j 0 + 0 * L.getD j 0 ≤ 9223372036854775807 := fun j hj => by
        have hm := HM.out (L.getD j 0) (by rw [List.getD_eq_getElem?_getD, List.getElem?_eq_getElem (by omega)]; exact List.getElem_mem _)
        have v0 := Int.emod_nonneg y (show L.getD j 0 ≠ 0 by omega)
        have v1 := Int.emod_lt_of_pos y (show 0 < L.getD j 0 by omega)
        omega
      have HR2 := Lib.hid (HR.out.congr (g := fun j => .int .i64 (y % L.getD j 0 + 0 * L.getD j 0)) (fun j hj => by simp only [if_pos hj]))
      have J2 := Lib.hid (back_row (L := L) y 0 (by omega) HM.out y0 (by rw [HA.out]; exact y1))
      rw [LQ, HA.out] at J2
      clear HR
      refine (join_walk 4294967296 divOk_small (by omega) _ _ k k k cap2 (lst k fun j => y % L.getD j 0 + 0 * L.getD j 0) L _ (sl_row HR2.out q5 ER) (SL.out.keep HB.out) (fun m hm => .inl (by have := HM.out m hm; omega))).mono ?_; rintro e w5 ⟨rfl, b5⟩
      rw [J2.out]
      have R5 := Lib.hid (HR2.out.of_block (b5.block _ HR2.out.lt))
      have W5 := Lib.hid (HB.out.trans (b5.mono zz))
      clear b5 HR2 HB ER LQ J2
      go_wp2_with fail
      go_loopw [14] (fun i wr => ∃ h : Nat, h ≤ k ∧ i = .int .i64 h ∧ wr.rowIs w1.heap.size 2 k (fun j => .int .i64 (if j < h then y % L.getD j 0 + -3 * L.getD j 0 else y % L.getD j 0 + 0 * L.getD j 0)) ∧ Below w1.heap.size w1 wr) (fun i _ => k - (intOf i).toNat)
      case atStart => exact ⟨0, Nat.zero_le _, rfl, R5.out.congr (fun j hj => by simp), W5.out⟩
      case round =>
        clear R5 W5
        rename_i wr0 _ _ _
        obtain ⟨h, hh, rfl, hr, hb⟩ := hrel
        have HR := Lib.hid hr
        have HB := Lib.hid hb
        have zz := hb.size
        clear hr hb
        by_cases hlt : h < k
        · have hk64 : (h : Int) < (k : Int) := by omega
          obtain ⟨b1, o1, m, rfl, hb1, e1, d1, m1, m2⟩ := (SL.out.keep HB.out).at (k := h) hlt
          have hmm := HM.out m (List.mem_of_getElem? e1)
          have EG := Lib.hid (at_getD e1)
          have v0 := Int.emod_nonneg y (show m ≠ 0 by omega)
          have v1 := Int.emod_lt_of_pos y (show 0 < m by omega)
          have cR0 := HR.out.cell hlt
          rw [if_neg (by omega), EG.out, Int.zero_mul, Int.add_zero] at cR0
          have hgz := HR.out.lt
          have w3m : IntKind.i64.wrap (3 * m) = 3 * m := wrap_i (by omega) (by omega)
          have wsm : IntKind.i64.wrap (y % m - 3 * m) = y % m - 3 * m := wrap_i (by omega) (by omega)
          clear e1
          go_wp2_with fail
          rename_i wr _
          refine wp_region_G_tail 13 TN (by kernel_rfl) (by kernel_rfl) ?_
          simp only [List.take, List.drop]
          repeat' (refine wpG_step' (fun K hA hK => ?_); go_simp; first | (refine bothG_value hA (v := ?_) (fun w' hw' => ?_) ?_; rotate_left; (· go_simp; rfl); (refine hK _ _ ?_; clear hK hA K)))
          refine wpG_nil ?_
          intro w2 hb2 hF
          have HR2 := Lib.hid (HR.out.of_block (hb2.block _ hgz))
          have HB2 := Lib.hid (HB.out.trans (hb2.mono zz))
          have cR := HR2.out.cell hlt
          have fR := HR2.out.frozen h
          clear hF hb2 HR HB cR0 d1
          go_wp2_with fail
          go_roundw
          case rel =>
            refine ⟨h + 1, by omega, by go_num, (HR2.out.set h _).congr (fun j hj => ?_), HB2.out.setCell (Nat.le_refl _) _⟩
            by_cases hjh : j = h
            · subst hjh; simp only [if_true]; rw [if_pos (by omega), EG.out]; congr 1; omega
            · rw [if_neg hjh]
              by_cases h2 : j < h
              · rw [if_pos h2, if_pos (by omega)]
              · rw [if_neg h2, if_neg (by omega)]
          case measure => simp [intOf]; omega
        · obtain rfl : h = k := by omega
          go_wp2_with fail
          have LQ : L.length = h := QL.out
          have ER : ∀ j, j < h → -9223372036854775808 ≤ y % L.getD j 0 + -3 * L.getD j 0 ∧ y % L.getD j 0 + -3 * L.getD j 0 ≤ 9223372036854775807 := fun j hj => by
            have hm := HM.out (L.getD j 0) (by rw [List.getD_eq_getElem?_getD, List.getElem?_eq_getElem (by omega)]; exact List.getElem_mem _)
            have v0 := Int.emod_nonneg y (show L.getD j 0 ≠ 0 by omega)
            have v1 := Int.emod_lt_of_pos y (show 0 < L.getD j 0 by omega)
            omega
          have HR2 := Lib.hid (HR.out.congr (g := fun j => .int .i64 (y % L.getD j 0 + -3 * L.getD j 0)) (fun j hj => by simp only [if_pos hj]))
          have J2 := Lib.hid (back_row (L := L) y (-3) (by omega) HM.out y0 (by rw [HA.out]; exact y1))
          rw [LQ, HA.out] at J2
          clear HR
          refine (join_walk 4294967296 divOk_small (by omega) _ _ h h h cap2 (lst h fun j => y % L.getD j 0 + -3 * L.getD j 0) L _ (sl_row HR2.out q5 ER) (SL.out.keep HB.out) (fun m hm => .inl (by have := HM.out m hm; omega))).mono ?_; rintro e w5 ⟨rfl, b5⟩
          rw [J2.out]
          have W5 := Lib.hid (HB.out.trans (b5.mono zz))
          clear b5 HR2 HB ER LQ J2
          go_wp2_with fail
          refine (wakes_walk _).mono ?_; rintro e w6 ⟨rfl, b6⟩
          have B6 : Hid (Below w.heap.size w w6) := Lib.hid (B1.out.trans ((W5.out.trans (b6.mono W5.out.size)).mono B1.out.size))
          clear b6
          go_wp2_with fail
          go_ret
          exact ⟨rfl, B6.out⟩
theorem back_args (W : World) (base : Nat) (args : Array Value) (hsz : args.size = Try.f7.params.size) (hval : ∀ (j : Nat) t v, Try.f7.params[j]? = some t → args[j]? = some v → Value.okWide Try.prog W .any base t v) (hrd : ∀ (j : Nat) t v, Try.f7.params[j]? = some t → args[j]? = some v → Rd Try.prog W t v.cells.toList) :
    Calls Try.prog 7 args W (fun e w' => e = .returned (.bool true) ∧ Below W.heap.size W w') := by
  rw [Try.params7] at hval hsz hrd
  obtain ⟨l⟩ := args
  match l, hsz with
  | [v0, v1], _ =>
    obtain ⟨x0, rfl, lo0, hi0⟩ := ok_int (t := 2) Try.underlying2 (hval 0 2 v0 rfl rfl)
    obtain ⟨a1, n1, c1, M1, rfl, s1⟩ := sl_arg (hval 1 27 v1 rfl rfl) (hrd 1 27 v1 rfl rfl)
    exact back_law x0 a1 n1 c1 M1 W lo0 hi0 s1

set_option maxRecDepth 100000 in
theorem back_lifted (os : Os) (started : os.Started) (H : Type) (enc : TypeId × Value → H) :
    ReturnsInHanded {} Try.checked os 7 .any (Rows.foldBackSpec.pre6 enc Try.prog Try.f7 Rows.foldBackRow.domain false) (Rows.foldBackSpec.post enc Try.prog Try.f7 false true false false) :=
  law_lifted_s (C := Try.checked) Try.own started (by kernel_rfl) Try.func7
    (ChangeSpec.witness6 (enc := enc) (C := Try.checked) false ⟨#[], #[.int .i64 0, .slice none 0 0], []⟩ 8 (by kernel_rfl) (by kernel_rfl) (by kernel_rfl) (by kernel_rfl))
    Try.laidOut (fun t ht => by have ht2 : t ∈ Try.f7.params.toList := ht; rw [Try.params7] at ht2; simp only [List.mem_cons, List.not_mem_nil, or_false] at ht2; rcases ht2 with rfl | rfl <;> exact ⟨by kernel_rfl, of_decide_eq_true (by kernel_rfl)⟩)
    rfl Try.underlying4 rfl (fun ds hd => by have hd2 : ds.length = Try.f7.params.size := hd; rw [Try.params7] at hd2; match ds, hd2 with | [d0, d1], _ => exact ⟨rfl, rfl, rfl⟩) back_args

theorem back_holds : Rows.FoldBackSaid :=
  OpenClaim.holds_of_wide 7 Try.f7 rfl rfl rfl rfl rfl rfl rfl ⟨rfl, rfl, rfl, rfl, rfl⟩ rfl rfl rfl rfl rfl (by kernel_rfl) Try.func7 (by kernel_rfl)
    (of_decide_eq_true (by kernel_rfl)) (by unfold Func.isWrapper; first | (rw [if_pos (by decide +kernel)]; kernel_rfl) | (rw [if_neg (by decide +kernel)]; exact ⟨rfl, rfl⟩))
    (fun os started H enc _ => back_lifted os started H enc)
#print axioms back_holds
end Go.Proofs.Ytepoionjcjgnjaa
