/-
  What is proved: the law PlanKnown returns true. No conditions: it takes no arguments.
-/
import Derived.Test.YtgdkmakmdomdbaaPnFr
import Derived.Test.YtgdkmakmdomdbaaPnLa
import Derived.Test.YtgdkmakmdomdbaaPnZ
import Derived.Laws.MakeOwn
import Derived.Test.YtgdkmakmdomdbaaRows
set_option autoImplicit false
set_option linter.unusedVariables false
namespace Go.Proofs.Ytgdkmakmdomdbaa
open Go.RowKit Go.ChangeShapes Go.WideShapes Go.ChangeAt Lk Pn
def kp2 : Pl := (nextP kp1).1
def kq1 : Pl := (untilP kq0 6).1
def kr2 : Pl := (untilP kr1 9).1
def ks2 : Pl := (untilP ks1 3).1
def kt4 : Pl := (setP kt3 0 ⟨0, 0, 0⟩).1
theorem wd_no {B K : Nat} {w0 w : World} {ps : List P1} {rs : List (Value × List Sl)} (h : Wd B K w0 w ps rs) (a : Option Addr) (n cap : Nat) (L : List Tk) (ts : Ts w a n cap L) (hE : newE L ≠ 0) :
    Calls Try.prog 10 #[.slice a n cap] w (fun e w' => e = .returned (.tuple #[.pointer none, .int .i64 (newE L)]) ∧ Wd B K w0 w' ps rs) :=
  (new_walk a n cap L w ts).mono fun e w' k => ⟨k.no hE, h.below k.b⟩
def zz3 : Array Value := #[.int .i64 0, .int .i64 0, .int .i64 0]
theorem zz3_get : ∀ q, q < 3 → zz3[q]! = .int .i64 0 := by
  intro q hq
  have : q = 0 ∨ q = 1 ∨ q = 2 := by omega
  rcases this with rfl | rfl | rfl <;> rfl
theorem made3_get (n i : Nat) (h : i < n) : (madeCells zz3 n)[i]? = some (.int .i64 0) := by
  have e : (Array.range n)[i]? = some i := by simp [h]
  unfold madeCells
  rw [Array.getElem?_map, e, Option.map_some, Option.some.injEq]
  exact zz3_get (i % 3) (Nat.mod_lt _ (by decide))
theorem big_ts (w : World) (N : Nat) (hN : N ≤ 1000000) {mz : Array Value} (hm : mz = madeCells zz3 (N * 3)) : Ts (w.alloc (.cells mz 26)) (some ⟨w.heap.size, 0, none⟩) N N (List.replicate N ⟨0, 0, 0⟩) := by
  have g := Deep.blk_alloc_new w (.cells mz 26)
  refine ⟨List.length_replicate, Nat.le_refl _, by omega, .inr ⟨w.heap.size, 0, rfl, by rw [al_size]; omega, fun j t ht => ?_⟩⟩
  have hj : j < N := by have := (List.getElem?_eq_some_iff.1 ht).1; rwa [List.length_replicate] at this
  rw [List.getElem?_replicate, if_pos hj] at ht
  cases ht
  have get : ∀ q, q < 3 → (w.alloc (.cells mz 26)).cell? ⟨w.heap.size, 0 + j * 3 + q, none⟩ = some (.int .i64 0) := fun q hq => by
    rw [blk_cell g, hm]
    exact made3_get _ _ (by omega)
  exact ⟨get 0 (by omega), get 1 (by omega), get 2 (by omega)⟩
theorem tk3_info : (Try.prog.info? 26).map (fun i => (i.zero.map (·.cells), i.size, i.bytes)) = some (some zz3, 3, 24) := by kernel_rfl
theorem Try.undTk : Try.prog.underlying 22 = some (.slice 26) := by kernel_rfl
set_option maxRecDepth 100000 in
set_option maxHeartbeats 8000000 in
theorem known_law (w : World) : Calls Try.prog 8 #[] w (fun e w' => e = .returned (.bool true) ∧ Below w.heap.size w w') := by
  obtain ⟨I, hi, hzz⟩ := Option.map_eq_some_iff.1 tk3_info
  simp only [Prod.mk.injEq] at hzz
  obtain ⟨z, hz, hzc⟩ := Option.map_eq_some_iff.1 hzz.1
  obtain ⟨mz, hmz⟩ : ∃ mz, mz = madeCells zz3 (257 * 3) := ⟨_, rfl⟩
  have hmk : ∀ w : World, (Instr.makeSlice 22 (.int .i64 257) (.int .i64 257)).run Try.prog w = .ok (.slice (some ⟨w.heap.size, 0, none⟩) 257 257) (w.alloc (.cells mz 26)) := fun w => by
    have := run_make (P := Try.prog) w 22 26 I z Try.undTk hi hz .i64 .i64 257 257 (by omega) (Int.le_refl _) (by rw [hzz.2.2]; omega) (by omega)
    rw [hzc, hzz.2.1] at this
    rw [hmz]
    simpa using this
  have HMZ := Lib.hid hmz
  clear hzz hzc hz hi hmz
  go_enter Try.func8, Try.ntmps8
  go_wp2_with fail
  refine (wd_new ((wd_nil w).al _) (by omega) _ 2 2 [⟨2, 1, 0⟩, ⟨2, 1, 9⟩] (ts_two w ⟨2, 1, 0⟩ ⟨2, 1, 9⟩) (by kernel_rfl)).mono ?_
  rintro e w1 ⟨pp, Sp, rfl, h⟩
  have H1 : Hid (Wd w.heap.size 1 w w1 [⟨Sp, pp, kp0⟩] []) := Lib.hid (h)
  clear h
  go_wp2_with fail
  refine (wd_new (H1.out.al _) (by omega) _ 2 2 [⟨2, 2, 0⟩, ⟨3, 1, 0⟩] (ts_two w1 ⟨2, 2, 0⟩ ⟨3, 1, 0⟩) (by kernel_rfl)).mono ?_
  rintro e w2 ⟨pq, Sq, rfl, h⟩
  have H2 : Hid (Wd w.heap.size 1 w w2 [⟨Sp, pp, kp0⟩, ⟨Sq, pq, kq0⟩] []) := Lib.hid (h)
  clear h H1
  go_wp2_with fail
  refine (wd_new (H2.out.al _) (by omega) _ 1 1 [⟨4, 2, 0⟩] (ts_one w2 ⟨4, 2, 0⟩) (by kernel_rfl)).mono ?_
  rintro e w3 ⟨pr, Sr, rfl, h⟩
  have H3 : Hid (Wd w.heap.size 1 w w3 [⟨Sp, pp, kp0⟩, ⟨Sq, pq, kq0⟩, ⟨Sr, pr, kr0⟩] []) := Lib.hid (h)
  clear h H2
  go_wp2_with fail
  refine (wd_new H3.out (by omega) _ 0 0 [] ⟨rfl, by omega, by omega, .inl rfl⟩ (by kernel_rfl)).mono ?_
  rintro e w4 ⟨ps, Ss, rfl, h⟩
  have H4 : Hid (Wd w.heap.size 1 w w4 [⟨Sp, pp, kp0⟩, ⟨Sq, pq, kq0⟩, ⟨Sr, pr, kr0⟩, ⟨Ss, ps, ks0⟩] []) := Lib.hid (h)
  clear h H3
  go_wp2_with fail
  refine (wd_new (H4.out.al _) (by omega) _ 1 1 [⟨2, 1, 0⟩] (ts_one w4 ⟨2, 1, 0⟩) (by kernel_rfl)).mono ?_
  rintro e w5 ⟨pt, St, rfl, h⟩
  have H5 : Hid (Wd w.heap.size 1 w w5 [⟨Sp, pp, kp0⟩, ⟨Sq, pq, kq0⟩, ⟨Sr, pr, kr0⟩, ⟨Ss, ps, ks0⟩, ⟨St, pt, kt0⟩] []) := Lib.hid (h)
  clear h H4
  go_wp2_with fail
  refine (wd_new (H5.out.al _) (by omega) _ 2 2 [⟨1099511627776, 1099511627776, 0⟩, ⟨1, 1, 5⟩] (ts_two w5 ⟨1099511627776, 1099511627776, 0⟩ ⟨1, 1, 5⟩) (by kernel_rfl)).mono ?_
  rintro e w6 ⟨pu, Su, rfl, h⟩
  have H6 : Hid (Wd w.heap.size 1 w w6 [⟨Sp, pp, kp0⟩, ⟨Sq, pq, kq0⟩, ⟨Sr, pr, kr0⟩, ⟨Ss, ps, ks0⟩, ⟨St, pt, kt0⟩, ⟨Su, pu, u0⟩] []) := Lib.hid (h)
  clear h H5
  go_wp2_with fail
  refine (wd_next (pre := []) (rs := []) H6.out (by omega) (by omega) (Nat.le_of_ble_eq_true rfl)).mono ?_
  rintro e w7 ⟨Spn1, rfl, h⟩
  rw [show (nextP kp0).2.1 = ⟨1, 0, 1, false⟩ by rw [kf_p0], show (nextP kp0).2.2 = 0 by rw [kf_p0]]
  simp only [slc]
  go_upto_region 10 with fail
  obtain ⟨w8, hz⟩ : ∃ x, x = w7.alloc (.cells (slc ⟨1, 0, 1, false⟩) 42) := ⟨_, rfl⟩
  obtain ⟨gw7, hg⟩ : ∃ x, x = w7.heap.size := ⟨_, rfl⟩
  have h := wd_box (rs := []) h ⟨1, 0, 1, false⟩
  rw [← hz] at h
  rw [← hg] at h
  simp only [slc] at hz
  rw [← hz, ← hg]
  have H7 : Hid (Wd w.heap.size 1 w w8 [⟨Spn1, pp, kp1⟩, ⟨Sq, pq, kq0⟩, ⟨Sr, pr, kr0⟩, ⟨Ss, ps, ks0⟩, ⟨St, pt, kt0⟩, ⟨Su, pu, u0⟩] [(.slice (some ⟨gw7, 0, none⟩) 1 1, [⟨1, 0, 1, false⟩])]) := Lib.hid (h)
  clear h H6 hz hg
  go_wp2_with fail
  refine (wd_next (pre := []) (rs := [_]) H7.out (by omega) (by omega) (Nat.le_of_ble_eq_true rfl)).mono ?_
  rintro e w9 ⟨Spn2, rfl, h⟩
  rw [show (nextP kp1).2.1 = ⟨0, 1, 2, false⟩ by rw [kf_p1], show (nextP kp1).2.2 = 0 by rw [kf_p1]]
  simp only [slc]
  go_upto_region 11 with fail
  obtain ⟨w10, hz⟩ : ∃ x, x = w9.alloc (.cells (slc ⟨0, 1, 2, false⟩) 42) := ⟨_, rfl⟩
  obtain ⟨gw9, hg⟩ : ∃ x, x = w9.heap.size := ⟨_, rfl⟩
  have h := wd_box (rs := [_]) h ⟨0, 1, 2, false⟩
  rw [← hz] at h
  rw [← hg] at h
  simp only [slc] at hz
  rw [← hz, ← hg]
  have H8 : Hid (Wd w.heap.size 1 w w10 [⟨Spn2, pp, kp2⟩, ⟨Sq, pq, kq0⟩, ⟨Sr, pr, kr0⟩, ⟨Ss, ps, ks0⟩, ⟨St, pt, kt0⟩, ⟨Su, pu, u0⟩] [(.slice (some ⟨gw7, 0, none⟩) 1 1, [⟨1, 0, 1, false⟩]), (.slice (some ⟨gw9, 0, none⟩) 1 1, [⟨0, 1, 2, false⟩])]) := Lib.hid (h)
  clear h H7 hz hg
  obtain ⟨l1, a0, a1, a2, a3⟩ := wd_cell H8.out (by simp : (.slice (some ⟨gw7, 0, none⟩) 1 1, [⟨1, 0, 1, false⟩]) ∈ ([(.slice (some ⟨gw7, 0, none⟩) 1 1, [⟨1, 0, 1, false⟩]), (.slice (some ⟨gw9, 0, none⟩) 1 1, [⟨0, 1, 2, false⟩])] : List (Value × List Sl))) (j := 0) rfl
  obtain ⟨l2, b0, b1, b2, b3⟩ := wd_cell H8.out (by simp : (.slice (some ⟨gw9, 0, none⟩) 1 1, [⟨0, 1, 2, false⟩]) ∈ ([(.slice (some ⟨gw7, 0, none⟩) 1 1, [⟨1, 0, 1, false⟩]), (.slice (some ⟨gw9, 0, none⟩) 1 1, [⟨0, 1, 2, false⟩])] : List (Value × List Sl))) (j := 0) rfl
  simp only [Nat.zero_mul, Nat.zero_add] at a0 a1 a2 a3 b0 b1 b2 b3
  have h := (H8.out.drop (pre := []) (post := [_])).drop (pre := []) (post := [])
  have H9 : Hid (Wd w.heap.size 1 w w10 [⟨Spn2, pp, kp2⟩, ⟨Sq, pq, kq0⟩, ⟨Sr, pr, kr0⟩, ⟨Ss, ps, ks0⟩, ⟨St, pt, kt0⟩, ⟨Su, pu, u0⟩] []) := Lib.hid (h)
  clear h H8
  go_wp2_with fail
  refine (wd_until (pre := [_]) (rs := []) H9.out 6 (by omega) (by omega)).mono ?_
  rintro e w11 ⟨vw11, Squ1, rfl, h⟩
  rw [kf_q] at h
  have H10 : Hid (Wd w.heap.size 1 w w11 [⟨Spn2, pp, kp2⟩, ⟨Squ1, pq, kq1⟩, ⟨Sr, pr, kr0⟩, ⟨Ss, ps, ks0⟩, ⟨St, pt, kt0⟩, ⟨Su, pu, u0⟩] [(vw11, [⟨0, 0, 2, false⟩, ⟨1, 2, 3, false⟩, ⟨0, 3, 5, true⟩, ⟨0, 5, 6, false⟩])]) := Lib.hid (h)
  clear h H9
  clear a0 a1 a2 a3 b0 b1 b2 b3 l1 l2
  go_wp2_with fail
  refine (wd_lit (pre := []) (post := []) H10.out (by decide)).mono ?_
  rintro e w12 ⟨rfl, h⟩
  have H11 : Hid (Wd w.heap.size 1 w w12 [⟨Spn2, pp, kp2⟩, ⟨Squ1, pq, kq1⟩, ⟨Sr, pr, kr0⟩, ⟨Ss, ps, ks0⟩, ⟨St, pt, kt0⟩, ⟨Su, pu, u0⟩] []) := Lib.hid (h)
  clear h H10
  go_wp2_with fail
  refine (wd_until (pre := [_, _]) (rs := []) H11.out 1 (by omega) (by omega)).mono ?_
  rintro e w13 ⟨vw13, Sru1, rfl, h⟩
  rw [kf_r0] at h
  have H12 : Hid (Wd w.heap.size 1 w w13 [⟨Spn2, pp, kp2⟩, ⟨Squ1, pq, kq1⟩, ⟨Sru1, pr, kr1⟩, ⟨Ss, ps, ks0⟩, ⟨St, pt, kt0⟩, ⟨Su, pu, u0⟩] [(vw13, [⟨0, 0, 1, false⟩])]) := Lib.hid (h)
  clear h H11
  go_wp2_with fail
  refine (wd_until (pre := [_, _]) (rs := [_]) H12.out 9 (by omega) (by omega)).mono ?_
  rintro e w14 ⟨vw14, Sru2, rfl, h⟩
  rw [kf_r1] at h
  have H13 : Hid (Wd w.heap.size 1 w w14 [⟨Spn2, pp, kp2⟩, ⟨Squ1, pq, kq1⟩, ⟨Sru2, pr, kr2⟩, ⟨Ss, ps, ks0⟩, ⟨St, pt, kt0⟩, ⟨Su, pu, u0⟩] [(vw13, [⟨0, 0, 1, false⟩]), (vw14, [⟨0, 1, 2, false⟩, ⟨0, 4, 6, false⟩, ⟨0, 8, 9, false⟩])]) := Lib.hid (h)
  clear h H12
  go_wp2_with fail
  refine (wd_lit (pre := []) (post := [_]) H13.out (by decide)).mono ?_
  rintro e w15 ⟨rfl, h⟩
  have H14 : Hid (Wd w.heap.size 1 w w15 [⟨Spn2, pp, kp2⟩, ⟨Squ1, pq, kq1⟩, ⟨Sru2, pr, kr2⟩, ⟨Ss, ps, ks0⟩, ⟨St, pt, kt0⟩, ⟨Su, pu, u0⟩] [(vw14, [⟨0, 1, 2, false⟩, ⟨0, 4, 6, false⟩, ⟨0, 8, 9, false⟩])]) := Lib.hid (h)
  clear h H13
  go_wp2_with fail
  refine (wd_lit (pre := []) (post := []) H14.out (by decide)).mono ?_
  rintro e w16 ⟨rfl, h⟩
  have H15 : Hid (Wd w.heap.size 1 w w16 [⟨Spn2, pp, kp2⟩, ⟨Squ1, pq, kq1⟩, ⟨Sru2, pr, kr2⟩, ⟨Ss, ps, ks0⟩, ⟨St, pt, kt0⟩, ⟨Su, pu, u0⟩] []) := Lib.hid (h)
  clear h H14
  go_wp2_with fail
  refine (wd_next (pre := [_, _, _]) (rs := []) H15.out (by omega) (by omega) (Nat.le_of_ble_eq_true rfl)).mono ?_
  rintro e w17 ⟨Ssn1, rfl, h⟩
  rw [show (nextP ks0).2.1 = ⟨0, 0, 0, false⟩ by rw [kf_s0.1], show (nextP ks0).2.2 = 240 by rw [kf_s0.1]]
  simp only [slc]
  go_upto_region 18 with fail
  obtain ⟨w18, hz⟩ : ∃ x, x = w17.alloc (.cells (slc ⟨0, 0, 0, false⟩) 42) := ⟨_, rfl⟩
  obtain ⟨gw17, hg⟩ : ∃ x, x = w17.heap.size := ⟨_, rfl⟩
  have h := Wd.al (rs := []) h (.cells (slc ⟨0, 0, 0, false⟩) 42)
  rw [← hz] at h
  simp only [slc] at hz
  rw [← hz, ← hg]
  have H16 : Hid (Wd w.heap.size 1 w w18 [⟨Spn2, pp, kp2⟩, ⟨Squ1, pq, kq1⟩, ⟨Sru2, pr, kr2⟩, ⟨Ssn1, ps, ks0⟩, ⟨St, pt, kt0⟩, ⟨Su, pu, u0⟩] []) := Lib.hid (h)
  clear h H15 hz hg
  go_wp2_with fail
  refine (wd_load (pre := [_, _, _]) (rs := []) H16.out (by omega) (by omega)).mono ?_
  rintro e w19 ⟨rfl, h⟩
  rw [show loadF (tks ks0.l) = (0, 1) from kf_s3]
  have H17 : Hid (Wd w.heap.size 1 w w19 [⟨Spn2, pp, kp2⟩, ⟨Squ1, pq, kq1⟩, ⟨Sru2, pr, kr2⟩, ⟨Ssn1, ps, ks0⟩, ⟨St, pt, kt0⟩, ⟨Su, pu, u0⟩] []) := Lib.hid (h)
  clear h H16
  go_wp2_with fail
  refine (wd_until (pre := [_, _, _]) (rs := []) H17.out 5 (by omega) (by omega)).mono ?_
  rintro e w20 ⟨vw20, Ssu1, rfl, h⟩
  rw [kf_s1.1] at h
  obtain ⟨aw20, cw20, ew20, kw20, mw20⟩ := own_form (show w20.ownsRow w.heap.size 42 4 vw20 0 [] from h.own (vw20, []) (by simp))
  subst ew20
  have H18 : Hid (Wd w.heap.size 1 w w20 [⟨Spn2, pp, kp2⟩, ⟨Squ1, pq, kq1⟩, ⟨Sru2, pr, kr2⟩, ⟨Ssu1, ps, ks1⟩, ⟨St, pt, kt0⟩, ⟨Su, pu, u0⟩] []) := Lib.hid (h.drop (pre := []) (post := []))
  clear h H17
  go_wp2_with fail
  refine (wd_now (pre := [_, _, _]) H18.out).mono ?_
  rintro e w21 ⟨rfl, rfl⟩
  rw [kf_s1.2]
  go_wp2_with fail
  refine (wd_until (pre := [_, _, _]) (rs := []) H18.out 3 (by omega) (by omega)).mono ?_
  rintro e w22 ⟨vw22, Ssu2, rfl, h⟩
  rw [kf_s2.1] at h
  obtain ⟨aw22, cw22, ew22, kw22, mw22⟩ := own_form (show w22.ownsRow w.heap.size 42 4 vw22 0 [] from h.own (vw22, []) (by simp))
  subst ew22
  have H19 : Hid (Wd w.heap.size 1 w w22 [⟨Spn2, pp, kp2⟩, ⟨Squ1, pq, kq1⟩, ⟨Sru2, pr, kr2⟩, ⟨Ssu2, ps, ks2⟩, ⟨St, pt, kt0⟩, ⟨Su, pu, u0⟩] []) := Lib.hid (h.drop (pre := []) (post := []))
  clear h H18
  go_wp2_with fail
  refine (wd_now (pre := [_, _, _]) H19.out).mono ?_
  rintro e w23 ⟨rfl, rfl⟩
  rw [show ks2.now = 5 from kf_s2.2]
  go_wp2_with fail
  refine (wd_until (pre := [_, _, _, _]) (rs := []) H19.out 1 (by omega) (by omega)).mono ?_
  rintro e w24 ⟨vw24, Stu1, rfl, h⟩
  have H20 : Hid (Wd w.heap.size 1 w w24 [⟨Spn2, pp, kp2⟩, ⟨Squ1, pq, kq1⟩, ⟨Sru2, pr, kr2⟩, ⟨Ssu2, ps, ks2⟩, ⟨Stu1, pt, kt1⟩, ⟨Su, pu, u0⟩] []) := Lib.hid (h.drop (pre := []) (post := []))
  clear h H19
  go_wp2_with fail
  refine (wd_set (pre := [_, _, _, _]) (rs := []) H20.out 0 ⟨3, 1, 0⟩ (by omega) (by omega)).mono ?_
  rintro e w25 ⟨Sts1, rfl, h⟩
  rw [kf_t1]
  have H21 : Hid (Wd w.heap.size 2 w w25 [⟨Spn2, pp, kp2⟩, ⟨Squ1, pq, kq1⟩, ⟨Sru2, pr, kr2⟩, ⟨Ssu2, ps, ks2⟩, ⟨Sts1, pt, kt2⟩, ⟨Su, pu, u0⟩] []) := Lib.hid (h)
  clear h H20
  go_wp2_with fail
  refine (wd_until (pre := [_, _, _, _]) (rs := []) H21.out 9 (by omega) (by omega)).mono ?_
  rintro e w26 ⟨vw26, Stu2, rfl, h⟩
  rw [kf_t2] at h
  have H22 : Hid (Wd w.heap.size 2 w w26 [⟨Spn2, pp, kp2⟩, ⟨Squ1, pq, kq1⟩, ⟨Sru2, pr, kr2⟩, ⟨Ssu2, ps, ks2⟩, ⟨Stu2, pt, kt3⟩, ⟨Su, pu, u0⟩] [(vw26, [⟨0, 2, 3, false⟩, ⟨0, 5, 6, false⟩, ⟨0, 8, 9, false⟩])]) := Lib.hid (h)
  clear h H21
  go_wp2_with fail
  refine (wd_lit (pre := []) (post := []) H22.out (by decide)).mono ?_
  rintro e w27 ⟨rfl, h⟩
  have H23 : Hid (Wd w.heap.size 2 w w27 [⟨Spn2, pp, kp2⟩, ⟨Squ1, pq, kq1⟩, ⟨Sru2, pr, kr2⟩, ⟨Ssu2, ps, ks2⟩, ⟨Stu2, pt, kt3⟩, ⟨Su, pu, u0⟩] []) := Lib.hid (h)
  clear h H22
  go_wp2_with fail
  refine (wd_set (pre := [_, _, _, _]) (rs := []) H23.out 0 ⟨0, 0, 0⟩ (by omega) (by omega)).mono ?_
  rintro e w28 ⟨Sts2, rfl, h⟩
  rw [kf_t3]
  have H24 : Hid (Wd w.heap.size 3 w w28 [⟨Spn2, pp, kp2⟩, ⟨Squ1, pq, kq1⟩, ⟨Sru2, pr, kr2⟩, ⟨Ssu2, ps, ks2⟩, ⟨Sts2, pt, kt4⟩, ⟨Su, pu, u0⟩] []) := Lib.hid (h)
  clear h H23
  go_wp2_with fail
  refine (wd_no (H24.out.al _) _ 1 1 [⟨0, 1, 0⟩] (ts_one w28 ⟨0, 1, 0⟩) (by rw [kf_e1]; decide)).mono ?_
  rintro e w29 ⟨rfl, h⟩
  rw [kf_e1]
  have H25 : Hid (Wd w.heap.size 3 w w29 [⟨Spn2, pp, kp2⟩, ⟨Squ1, pq, kq1⟩, ⟨Sru2, pr, kr2⟩, ⟨Ssu2, ps, ks2⟩, ⟨Sts2, pt, kt4⟩, ⟨Su, pu, u0⟩] []) := Lib.hid (h)
  clear h H24
  go_wp2_with fail
  refine (wd_no (H25.out.al _) _ 1 1 [⟨2, 3, 0⟩] (ts_one w29 ⟨2, 3, 0⟩) (by rw [kf_e2]; decide)).mono ?_
  rintro e w30 ⟨rfl, h⟩
  rw [kf_e2]
  have H26 : Hid (Wd w.heap.size 3 w w30 [⟨Spn2, pp, kp2⟩, ⟨Squ1, pq, kq1⟩, ⟨Sru2, pr, kr2⟩, ⟨Ssu2, ps, ks2⟩, ⟨Sts2, pt, kt4⟩, ⟨Su, pu, u0⟩] []) := Lib.hid (h)
  clear h H25
  go_wp2_with fail
  refine (wd_no (H26.out.al _) _ 1 1 [⟨1099511627777, 1, 0⟩] (ts_one w30 ⟨1099511627777, 1, 0⟩) (by rw [kf_e3]; decide)).mono ?_
  rintro e w31 ⟨rfl, h⟩
  rw [kf_e3]
  have H27 : Hid (Wd w.heap.size 3 w w31 [⟨Spn2, pp, kp2⟩, ⟨Squ1, pq, kq1⟩, ⟨Sru2, pr, kr2⟩, ⟨Ssu2, ps, ks2⟩, ⟨Sts2, pt, kt4⟩, ⟨Su, pu, u0⟩] []) := Lib.hid (h)
  clear h H26
  go_wp2_with fail
  refine (wd_no (H27.out.al _) _ 257 257 (List.replicate 257 ⟨0, 0, 0⟩) (big_ts w31 257 (by omega) HMZ.out) (by rw [kf_e4]; decide)).mono ?_
  rintro e w32 ⟨rfl, h⟩
  rw [kf_e4]
  have H28 : Hid (Wd w.heap.size 3 w w32 [⟨Spn2, pp, kp2⟩, ⟨Squ1, pq, kq1⟩, ⟨Sru2, pr, kr2⟩, ⟨Ssu2, ps, ks2⟩, ⟨Sts2, pt, kt4⟩, ⟨Su, pu, u0⟩] []) := Lib.hid (h)
  clear h H27
  go_wp2_with fail
  refine (far_walk w.heap.size pu Su _ (H28.out.p.get (pre := [_, _, _, _, _]) (post := []) (x := ⟨Su, pu, u0⟩)) H28.out.hB).mono ?_
  rintro e w33 ⟨rfl, b1⟩
  have B1 := Lib.hid (H28.out.b.trans b1)
  clear b1 H28
  go_wp2_with fail
  refine (late_walk _).mono ?_
  rintro e wl ⟨rfl, b2⟩
  have B2 := Lib.hid (B1.out.trans (b2.mono B1.out.size))
  clear b2 B1
  go_wp2_with fail
  refine (wakes_walk _).mono ?_
  rintro e wm ⟨rfl, b3⟩
  have B3 := Lib.hid (B2.out.trans (b3.mono B2.out.size))
  clear b3 B2
  go_wp2_with fail
  go_ret
  exact ⟨rfl, B3.out⟩
set_option maxRecDepth 100000 in
theorem known_args (W : World) (base : Nat) (args : Array Value) (hsz : args.size = Try.f8.params.size) (hval : ∀ (j : Nat) t v, Try.f8.params[j]? = some t → args[j]? = some v → Value.okWide Try.prog W .any base t v) :
    Calls Try.prog 8 args W (fun e w' => e = .returned (.bool true) ∧ Below W.heap.size W w') := by
  rw [Try.params8] at hsz
  obtain rfl : args = #[] := by simpa using hsz
  exact known_law W

set_option maxRecDepth 100000 in
theorem known_lifted (os : Os) (started : os.Started) (H : Type) (enc : TypeId × Value → H) :
    ReturnsInHanded {} Try.checked os 8 .any (Rows.planKnownSpec.pre6 enc Try.prog Try.f8 Rows.planKnownRow.domain false) (Rows.planKnownSpec.post enc Try.prog Try.f8 false true false false) :=
  law_lifted (C := Try.checked) Try.own started (by kernel_rfl) Try.func8
    (ChangeSpec.witness6 (enc := enc) (C := Try.checked) false ⟨#[], #[], []⟩ 8 (by kernel_rfl) (by kernel_rfl) (by kernel_rfl) (by kernel_rfl))
    Try.laidOut (fun t ht => by have ht2 : t ∈ Try.f8.params.toList := ht; rw [Try.params8] at ht2; simp at ht2)
    rfl Try.underlying4 rfl (fun ds hd => by have hd2 : ds.length = Try.f8.params.size := hd; rw [Try.params8] at hd2; match ds, hd2 with | [], _ => exact ⟨rfl, rfl, rfl⟩) known_args

theorem known_holds : Rows.PlanKnownSaid :=
  OpenClaim.holds_of_wide 8 Try.f8 rfl rfl rfl rfl rfl rfl rfl ⟨rfl, rfl, rfl, rfl, rfl⟩ rfl rfl rfl rfl rfl (by kernel_rfl) Try.func8 (by kernel_rfl)
    (of_decide_eq_true (by kernel_rfl)) (by unfold Func.isWrapper; first | (rw [if_pos (by decide +kernel)]; kernel_rfl) | (rw [if_neg (by decide +kernel)]; exact ⟨rfl, rfl⟩))
    (fun os started H enc _ => known_lifted os started H enc)
#print axioms known_holds
end Go.Proofs.Ytgdkmakmdomdbaa
