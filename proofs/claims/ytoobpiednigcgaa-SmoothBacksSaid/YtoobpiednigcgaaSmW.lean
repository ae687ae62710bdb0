import Derived.Test.YtoobpiednigcgaaSmB
import Derived.Test.YtoobpiednigcgaaSmRL
import Derived.Test.YtoobpiednigcgaaSmK
set_option autoImplicit false
set_option linter.unusedVariables false
namespace Go.Proofs.Ytoobpiednigcgaa
open Go.RowKit Lk
/-- what the calls of the last region hand back -/
structure TY (f : FuncId) (args : Array Value) (u : Value) (w : World) : Prop where
  t55 : f = 55 → ∃ a b c d v, args = #[.float .f64 a, .float .f64 b, .float .f64 c, .float .f64 d] ∧ u = .float .f64 v ∧ v < 2 ^ 64 ∧ Is v (pairF a b c d)
theorem tx_55 (a b c d : Nat) (w : World) : Calls Try.prog 55 #[.float .f64 a, .float .f64 b, .float .f64 c, .float .f64 d] w (fun e w'' => ∃ u, e = .returned u ∧ TY 55 #[.float .f64 a, .float .f64 b, .float .f64 c, .float .f64 d] u w'' ∧ Ext w w'') :=
  (two_walk a b c d a b c d w (Is.refl _) (Is.refl _) (Is.refl _) (Is.refl _)).mono fun e w' ⟨v, he, hv, hb⟩ => ⟨_, he, ⟨fun _ => ⟨a, b, c, d, v, rfl, rfl, hv.2, hv.1⟩⟩, hb⟩
/-- step's own blocks -/
structure RW (w : World) (s n : St) (w1 : World) : Prop where
  bs : Bs w1 w.heap.size s
  bn : Bs w1 (w.heap.size + 1) n
  br : Bs w1 (w.heap.size + 1 + 1) ⟨0, 0, 0, 0, 0⟩
  hb : Below w.heap.size w w1
theorem RW.keep {w w1 w2 : World} {s n : St} (h : RW w s n w1) (b : Below w1.heap.size w1 w2) : RW w s n w2 := ⟨h.bs.keep b, h.bn.keep b, h.br.keep b, h.hb.trans (b.mono h.hb.size)⟩
theorem RW.start (w : World) (s n : St) : RW w s n (((w.alloc (.cells #[.float .f64 s.x, .float .f64 s.v, .float .f64 s.pxx, .float .f64 s.pxv, .float .f64 s.pvv] 27)).alloc (.cells #[.float .f64 n.x, .float .f64 n.v, .float .f64 n.pxx, .float .f64 n.pxv, .float .f64 n.pvv] 27)).alloc (.cells #[.float .f64 0, .float .f64 0, .float .f64 0, .float .f64 0, .float .f64 0] 27)) := by
  refine ⟨((Bs.new' w s rfl).old _).old _, (Bs.new' _ n (by simp only [szA])).old _, Bs.new' _ ⟨0, 0, 0, 0, 0⟩ (by simp only [szA]), by (repeat' (first | exact Below.refl _ _ | refine below_drewN ?_ _ | refine Below.setCell ?_ (by first | exact Nat.le_refl _ | (simp; done) | (simp; omega)) _ | refine Below.alloc ?_ (by first | exact Nat.le_refl _ | (simp; done) | (simp; omega)) _))⟩
/-- and the state ahead -/
structure RP (w : World) (s n : St) (g : Nat) (p : St) (w1 : World) : Prop where
  r : RW w s n w1
  bp : Bs w1 g p
  hg : w.heap.size + 1 + 1 < g
theorem RP.keep {w w1 w2 : World} {s n p : St} {g : Nat} (h : RP w s n g p w1) (b : Below w1.heap.size w1 w2) : RP w s n g p w2 := ⟨h.r.keep b, h.bp.keep b, h.hg⟩
theorem RP.only {w w1 w2 : World} {s n p : St} {g k : Nat} (h : RP w s n g p w1) (o : Only k w1 w2) (hk : g < k) : RP w s n g p w2 := by
  have := h.hg
  exact ⟨⟨(o.block _ (by omega)).trans h.r.bs, (o.block _ (by omega)).trans h.r.bn, (o.block _ (by omega)).trans h.r.br, h.r.hb.trans (o.below (by omega))⟩, (o.block _ (by omega)).trans h.bp, h.hg⟩
theorem finS_cases (o : St) : (decide (Lk.Fin o.x) = false) ∨ (decide (Lk.Fin o.x) = true ∧ decide (Lk.Fin o.v) = false) ∨ (decide (Lk.Fin o.x) = true ∧ decide (Lk.Fin o.v) = true ∧ decide (Lk.Fin o.pxx) = false) ∨
    (decide (Lk.Fin o.x) = true ∧ decide (Lk.Fin o.v) = true ∧ decide (Lk.Fin o.pxx) = true ∧ decide (Lk.Fin o.pxv) = false) ∨ (decide (Lk.Fin o.x) = true ∧ decide (Lk.Fin o.v) = true ∧ decide (Lk.Fin o.pxx) = true ∧ decide (Lk.Fin o.pxv) = true ∧ decide (Lk.Fin o.pvv) = false) ∨
    (decide (Lk.Fin o.x) = true ∧ decide (Lk.Fin o.v) = true ∧ decide (Lk.Fin o.pxx) = true ∧ decide (Lk.Fin o.pxv) = true ∧ decide (Lk.Fin o.pvv) = true) := by
  cases decide (Lk.Fin o.x) <;> cases decide (Lk.Fin o.v) <;> cases decide (Lk.Fin o.pxx) <;> cases decide (Lk.Fin o.pxv) <;> cases decide (Lk.Fin o.pvv) <;> simp
/-- what step hands back -/
def StepP (u : St) (w : World) (e : Ending) (w' : World) : Prop := ∃ o : St, e = .returned (sv5 o) ∧ IsS o u ∧ St.Lt o ∧ Below w.heap.size w w'
/-- behind the new state -/
def RM (w : World) (s n p : St) (g : Nat) (u : St) (k : Nat) (wx : World) : Prop := ∃ o : St, RP w s n g p wx ∧ Bs wx k o ∧ IsS o u ∧ St.Lt o ∧ g < k

set_option maxRecDepth 100000 in
set_option maxHeartbeats 8000000 in
theorem step_walk (s nx : St) (dt q : Nat) (w : World) (hl : St.Lt s) :
    Calls Try.prog 35 #[sv5 s, .float .f64 dt, .float .f64 q, sv5 nx] w (StepP (stepF s dt q nx) w) := by
  obtain ⟨P, hP⟩ : ∃ P, P = aheadF s dt q := ⟨_, rfl⟩
  obtain ⟨D, hD⟩ : ∃ D, D = detF P := ⟨_, rfl⟩
  have SF : Hid (stepF s dt q nx = if cgt D 0 && decide (Lk.Fin D) then if finS (gainF s P nx dt D) then gainF s P nx dt D else s else s) := Lib.hid (by rw [hD, hP]; rfl)
  have HP := Lib.hid hP
  have HD := Lib.hid hD
  have HL := Lib.hid hl
  clear hl hP hD
  go_enter Try.func35, Try.ntmps35
  go_upto_region 1 with fail
  refine wp_forget (RW w s nx) (RW.start w s nx) ?_
  intro w1 g1
  have G1 := Lib.hid g1
  obtain ⟨s0, s1, s2, s3, s4⟩ := g1.bs.cells
  have zs := g1.bs.lt
  have zr := g1.br.lt
  clear g1
  go_wp2_with fail
  refine (rahead_walk s.x s.v s.pxx s.pxv s.pvv dt q _ HL.out).mono ?_
  rintro e w2 ⟨pa, pb, pc, pd, pf, rfl, ⟨ip, lp⟩, b1⟩
  have IP : Hid (IsS ⟨pa, pb, pc, pd, pf⟩ P) := Lib.hid (by rw [HP.out]; exact ip)
  have G2 := Lib.hid (G1.out.keep b1)
  have zg : w.heap.size + 1 + 1 < w2.heap.size := G2.out.br.lt
  have ZG := Lib.hid zg
  clear b1 ip lp s0 s1 s2 s3 s4 zs zr G1 zg
  go_upto_region 2 with fail
  refine wp_forget (RP w s nx w2.heap.size ⟨pa, pb, pc, pd, pf⟩) ⟨G2.out.keep ((Below.refl _ w2).alloc (Nat.le_refl _) _), Bs.new' w2 ⟨pa, pb, pc, pd, pf⟩ rfl, ZG.out⟩ ?_
  intro w3 g3
  have G3 := Lib.hid g3
  obtain ⟨p0, p1, p2, p3, p4⟩ := g3.bp.cells
  have zp := g3.bp.lt
  clear g3 G2
  go_wp2_with fail
  refine (less_walk _ _ _ _ P.pxx P.pvv P.pxv P.pxv _ IP.out.pxx IP.out.pvv IP.out.pxv IP.out.pxv).mono ?_
  rintro e w4 ⟨d, rfl, ⟨hd, ld⟩, b4⟩
  have HD4 : Hid (Is d D) := Lib.hid (by rw [HD.out]; exact hd)
  have G4 := Lib.hid (G3.out.keep b4)
  clear hd b4 p0 p1 p2 p3 p4 zp G3
  have zs := G4.out.r.bs.lt
  have zr := G4.out.r.br.lt
  obtain ⟨s0, s1, s2, s3, s4⟩ := G4.out.r.bs.cells
  cases h5 : cgt D 0 with
  | false =>
    have q1 : (FloatKind.f64.format.order d 0 == some Ordering.gt) = false := (cgt_is HD4.out (Is.refl 0)).trans h5
    have E : Hid (stepF s dt q nx = s) := Lib.hid (by rw [SF.out, h5]; rfl)
    clear h5
    have br : w4.heap[w.heap.size + 1 + 1]? = some (.cells #[.float .f64 0, .float .f64 0, .float .f64 0, .float .f64 0, .float .f64 0] 27 (0, 0)) := G4.out.r.br
    have HBZ := Lib.hid G4.out.r.hb
    go_wp2_with (first | (refine wpList_store_at rfl rfl (g := w.heap.size + 1 + 1) (j := 0) rfl rfl br (by kernel_rfl) (Nat.le_of_ble_eq_true rfl) (one_fl5 _ _ _ _ _) ?_; intro w9 b9 o9; have B9 : Bs w9 (w.heap.size + 1 + 1) s := b9; have HB9 := Lib.hid (HBZ.out.trans (o9.below (by omega))); obtain ⟨r0, r1, r2, r3, r4⟩ := B9.cells; clear b9 o9 br B9))
    refine bodyPost_ret (v := ?_) ?_ rfl ?_
    rotate_left
    · simp [results, Try.results35, go_sem, r0, r1, r2, r3, r4]; rfl
    · exact ⟨s, rfl, (by rw [E.out]; exact IsS.refl _), HL.out, HB9.out⟩
  | true =>
    have q1 : (FloatKind.f64.format.order d 0 == some Ordering.gt) = true := (cgt_is HD4.out (Is.refl 0)).trans h5
    cases h6 : decide (Lk.Fin D) with
    | false =>
      have E : Hid (stepF s dt q nx = s) := Lib.hid (by rw [SF.out, h5, h6]; rfl)
      have H6 := Lib.hid h6
      clear h5 h6
      go_wp2_with fail
      refine (isfin_b d D false HD4.out H6.out _).mono ?_; rintro e w5 ⟨rfl, rfl⟩
      have br : w4.heap[w.heap.size + 1 + 1]? = some (.cells #[.float .f64 0, .float .f64 0, .float .f64 0, .float .f64 0, .float .f64 0] 27 (0, 0)) := G4.out.r.br
      have HBZ := Lib.hid G4.out.r.hb
      go_wp2_with (first | (refine wpList_store_at rfl rfl (g := w.heap.size + 1 + 1) (j := 0) rfl rfl br (by kernel_rfl) (Nat.le_of_ble_eq_true rfl) (one_fl5 _ _ _ _ _) ?_; intro w9 b9 o9; have B9 : Bs w9 (w.heap.size + 1 + 1) s := b9; have HB9 := Lib.hid (HBZ.out.trans (o9.below (by omega))); obtain ⟨r0, r1, r2, r3, r4⟩ := B9.cells; clear b9 o9 br B9))
      refine bodyPost_ret (v := ?_) ?_ rfl ?_
      rotate_left
      · simp [results, Try.results35, go_sem, r0, r1, r2, r3, r4]; rfl
      · exact ⟨s, rfl, (by rw [E.out]; exact IsS.refl _), HL.out, HB9.out⟩
    | true =>
      have E : Hid (stepF s dt q nx = if finS (gainF s P nx dt D) then gainF s P nx dt D else s) := Lib.hid (by rw [SF.out, h5, h6]; rfl)
      have H6 := Lib.hid h6
      clear h5 h6 SF
      go_wp2_with fail
      refine (isfin_b d D true HD4.out H6.out _).mono ?_; rintro e w5 ⟨rfl, rfl⟩
      obtain ⟨p0, p1, p2, p3, p4⟩ := G4.out.bp.cells
      have zp := G4.out.bp.lt
      go_wp2_with (first | ((with_reducible refine wpList_float (o := ⟨some 56, _, _, _, _, _⟩) (x := ?_) (y := ?_) (X := ?_) (Y := ?_) rfl rfl ?_ ?_ ?_ ?_ ?_ ?_); (· rfl); (rotate_left 4); (· rfl); (· rfl); (· first | assumption | exact Is.refl _); (· first | assumption | exact Is.refl _); intro x56 n56 h56 l56) | ((with_reducible refine wpList_float (o := ⟨some 57, _, _, _, _, _⟩) (x := ?_) (y := ?_) (X := ?_) (Y := ?_) rfl rfl ?_ ?_ ?_ ?_ ?_ ?_); (· rfl); (rotate_left 4); (· rfl); (· rfl); (· first | assumption | exact Is.refl _); (· first | assumption | exact Is.refl _); intro x57 n57 h57 l57) | ((with_reducible refine wpList_float (o := ⟨some 65, _, _, _, _, _⟩) (x := ?_) (y := ?_) (X := ?_) (Y := ?_) rfl rfl ?_ ?_ ?_ ?_ ?_ ?_); (· rfl); (rotate_left 4); (· rfl); (· rfl); (· first | assumption | exact Is.refl _); (· first | assumption | exact Is.refl _); intro x65 n65 h65 l65) | ((with_reducible refine wpList_float (o := ⟨some 66, _, _, _, _, _⟩) (x := ?_) (y := ?_) (X := ?_) (Y := ?_) rfl rfl ?_ ?_ ?_ ?_ ?_ ?_); (· rfl); (rotate_left 4); (· rfl); (· rfl); (· first | assumption | exact Is.refl _); (· first | assumption | exact Is.refl _); intro x66 n66 h66 l66))
      have M11 := Lib.hid (show Is x57 (fadd s.pxx (fmul dt s.pxv)) from h57)
      have M21 := Lib.hid (show Is x66 (fadd s.pxv (fmul dt s.pvv)) from h66)
      clear h56 h57 h65 h66 l56 l57 l65 l66
      refine (less_walk _ _ _ _ (fadd s.pxx (fmul dt s.pxv)) P.pvv s.pxv P.pxv _ M11.out IP.out.pvv (Is.refl _) IP.out.pxv).mono ?_
      rintro e w5 ⟨v75, rfl, ⟨i75, l75⟩, b5⟩
      have G5 : Hid (RP w s nx w2.heap.size ⟨pa, pb, pc, pd, pf⟩ w5) := Lib.hid (by first | exact G4.out.keep b5 | exact G4.out.keep (Below.trans (below_drewN (Below.refl _ _) _) b5))
      have I75 := Lib.hid i75
      clear b5 G4 i75 s0 s1 s2 s3 s4 p0 p1 p2 p3 p4 zs zp
      obtain ⟨p0, p1, p2, p3, p4⟩ := G5.out.bp.cells
      have zp := G5.out.bp.lt
      obtain ⟨s0, s1, s2, s3, s4⟩ := G5.out.r.bs.cells
      have zs := G5.out.r.bs.lt
      go_wp2_with (first | ((with_reducible refine wpList_float (o := ⟨some 77, _, _, _, _, _⟩) (x := ?_) (y := ?_) (X := ?_) (Y := ?_) rfl rfl ?_ ?_ ?_ ?_ ?_ ?_); (· rfl); (rotate_left 4); (· rfl); (· rfl); (· first | assumption | exact Is.refl _); (· first | assumption | exact Is.refl _); intro x77 n77 h77 l77))
      have A00 := Lib.hid (show Is x77 (gnF s P dt D).c00 by show Is x77 (fdiv (crossF (fadd s.pxx (fmul dt s.pxv)) P.pvv s.pxv P.pxv) D); exact h77)
      clear h77 I75
      refine (less_walk _ _ _ _ s.pxv P.pxx (fadd s.pxx (fmul dt s.pxv)) P.pxv _ (Is.refl _) IP.out.pxx M11.out IP.out.pxv).mono ?_
      rintro e w6 ⟨v84, rfl, ⟨i84, l84⟩, b5⟩
      have G6 : Hid (RP w s nx w2.heap.size ⟨pa, pb, pc, pd, pf⟩ w6) := Lib.hid (by first | exact G5.out.keep b5 | exact G5.out.keep (Below.trans (below_drewN (Below.refl _ _) _) b5))
      have I84 := Lib.hid i84
      clear b5 G5 i84 s0 s1 s2 s3 s4 p0 p1 p2 p3 p4 zs zp
      obtain ⟨p0, p1, p2, p3, p4⟩ := G6.out.bp.cells
      have zp := G6.out.bp.lt
      obtain ⟨s0, s1, s2, s3, s4⟩ := G6.out.r.bs.cells
      have zs := G6.out.r.bs.lt
      go_wp2_with (first | ((with_reducible refine wpList_float (o := ⟨some 86, _, _, _, _, _⟩) (x := ?_) (y := ?_) (X := ?_) (Y := ?_) rfl rfl ?_ ?_ ?_ ?_ ?_ ?_); (· rfl); (rotate_left 4); (· rfl); (· rfl); (· first | assumption | exact Is.refl _); (· first | assumption | exact Is.refl _); intro x86 n86 h86 l86))
      have A01 := Lib.hid (show Is x86 (gnF s P dt D).c01 by show Is x86 (fdiv (crossF s.pxv P.pxx (fadd s.pxx (fmul dt s.pxv)) P.pxv) D); exact h86)
      clear h86 I84
      refine (less_walk _ _ _ _ (fadd s.pxv (fmul dt s.pvv)) P.pvv s.pvv P.pxv _ M21.out IP.out.pvv (Is.refl _) IP.out.pxv).mono ?_
      rintro e w7 ⟨v93, rfl, ⟨i93, l93⟩, b5⟩
      have G7 : Hid (RP w s nx w2.heap.size ⟨pa, pb, pc, pd, pf⟩ w7) := Lib.hid (by first | exact G6.out.keep b5 | exact G6.out.keep (Below.trans (below_drewN (Below.refl _ _) _) b5))
      have I93 := Lib.hid i93
      clear b5 G6 i93 s0 s1 s2 s3 s4 p0 p1 p2 p3 p4 zs zp
      obtain ⟨p0, p1, p2, p3, p4⟩ := G7.out.bp.cells
      have zp := G7.out.bp.lt
      obtain ⟨s0, s1, s2, s3, s4⟩ := G7.out.r.bs.cells
      have zs := G7.out.r.bs.lt
      go_wp2_with (first | ((with_reducible refine wpList_float (o := ⟨some 95, _, _, _, _, _⟩) (x := ?_) (y := ?_) (X := ?_) (Y := ?_) rfl rfl ?_ ?_ ?_ ?_ ?_ ?_); (· rfl); (rotate_left 4); (· rfl); (· rfl); (· first | assumption | exact Is.refl _); (· first | assumption | exact Is.refl _); intro x95 n95 h95 l95))
      have A10 := Lib.hid (show Is x95 (gnF s P dt D).c10 by show Is x95 (fdiv (crossF (fadd s.pxv (fmul dt s.pvv)) P.pvv s.pvv P.pxv) D); exact h95)
      clear h95 I93
      refine (less_walk _ _ _ _ s.pvv P.pxx (fadd s.pxv (fmul dt s.pvv)) P.pxv _ (Is.refl _) IP.out.pxx M21.out IP.out.pxv).mono ?_
      rintro e w8 ⟨v102, rfl, ⟨i102, l102⟩, b5⟩
      have G8 : Hid (RP w s nx w2.heap.size ⟨pa, pb, pc, pd, pf⟩ w8) := Lib.hid (by first | exact G7.out.keep b5 | exact G7.out.keep (Below.trans (below_drewN (Below.refl _ _) _) b5))
      have I102 := Lib.hid i102
      clear b5 G7 i102 s0 s1 s2 s3 s4 p0 p1 p2 p3 p4 zs zp
      obtain ⟨p0, p1, p2, p3, p4⟩ := G8.out.bp.cells
      have zp := G8.out.bp.lt
      obtain ⟨s0, s1, s2, s3, s4⟩ := G8.out.r.bs.cells
      have zs := G8.out.r.bs.lt
      obtain ⟨n0, n1, n2, n3, n4⟩ := G8.out.r.bn.cells
      have zn := G8.out.r.bn.lt
      go_wp2_with (first | ((with_reducible refine wpList_float (o := ⟨some 104, _, _, _, _, _⟩) (x := ?_) (y := ?_) (X := ?_) (Y := ?_) rfl rfl ?_ ?_ ?_ ?_ ?_ ?_); (· rfl); (rotate_left 4); (· rfl); (· rfl); (· first | assumption | exact Is.refl _); (· first | assumption | exact Is.refl _); intro x104 n104 h104 l104) | ((with_reducible refine wpList_float (o := ⟨some 109, _, _, _, _, _⟩) (x := ?_) (y := ?_) (X := ?_) (Y := ?_) rfl rfl ?_ ?_ ?_ ?_ ?_ ?_); (· rfl); (rotate_left 4); (· rfl); (· rfl); (· first | assumption | exact Is.refl _); (· first | assumption | exact Is.refl _); intro x109 n109 h109 l109) | ((with_reducible refine wpList_float (o := ⟨some 114, _, _, _, _, _⟩) (x := ?_) (y := ?_) (X := ?_) (Y := ?_) rfl rfl ?_ ?_ ?_ ?_ ?_ ?_); (· rfl); (rotate_left 4); (· rfl); (· rfl); (· first | assumption | exact Is.refl _); (· first | assumption | exact Is.refl _); intro x114 n114 h114 l114) | ((with_reducible refine wpList_float (o := ⟨some 119, _, _, _, _, _⟩) (x := ?_) (y := ?_) (X := ?_) (Y := ?_) rfl rfl ?_ ?_ ?_ ?_ ?_ ?_); (· rfl); (rotate_left 4); (· rfl); (· rfl); (· first | assumption | exact Is.refl _); (· first | assumption | exact Is.refl _); intro x119 n119 h119 l119) | ((with_reducible refine wpList_float (o := ⟨some 124, _, _, _, _, _⟩) (x := ?_) (y := ?_) (X := ?_) (Y := ?_) rfl rfl ?_ ?_ ?_ ?_ ?_ ?_); (· rfl); (rotate_left 4); (· rfl); (· rfl); (· first | assumption | exact Is.refl _); (· first | assumption | exact Is.refl _); intro x124 n124 h124 l124) | ((with_reducible refine wpList_float (o := ⟨some 129, _, _, _, _, _⟩) (x := ?_) (y := ?_) (X := ?_) (Y := ?_) rfl rfl ?_ ?_ ?_ ?_ ?_ ?_); (· rfl); (rotate_left 4); (· rfl); (· rfl); (· first | assumption | exact Is.refl _); (· first | assumption | exact Is.refl _); intro x129 n129 h129 l129))
      have A11 := Lib.hid (show Is x104 (gnF s P dt D).c11 by show Is x104 (fdiv (crossF s.pvv P.pxx (fadd s.pxv (fmul dt s.pvv)) P.pxv) D); exact h104)
      clear h104 I102
      have E1 := Lib.hid (show Is x109 (fsub nx.x P.x) by rw [← is_fsub (Is.refl nx.x) IP.out.x]; exact h109)
      have E2 := Lib.hid (show Is x114 (fsub nx.v P.v) by rw [← is_fsub (Is.refl nx.v) IP.out.v]; exact h114)
      have E3 := Lib.hid (show Is x119 (fsub nx.pxx P.pxx) by rw [← is_fsub (Is.refl nx.pxx) IP.out.pxx]; exact h119)
      have E4 := Lib.hid (show Is x124 (fsub nx.pxv P.pxv) by rw [← is_fsub (Is.refl nx.pxv) IP.out.pxv]; exact h124)
      have E5 := Lib.hid (show Is x129 (fsub nx.pvv P.pvv) by rw [← is_fsub (Is.refl nx.pvv) IP.out.pvv]; exact h129)
      clear h109 h114 h119 h124 h129
      clear s0 s1 s2 s3 s4 p0 p1 p2 p3 p4 n0 n1 n2 n3 n4 zs zp zn
      refine (two_walk _ _ _ _ (gnF s P dt D).c00 (fsub nx.pxx P.pxx) (gnF s P dt D).c01 (fsub nx.pxv P.pxv) _ A00.out E3.out A01.out E4.out).mono ?_
      rintro e w9 ⟨v134, rfl, ⟨i134, l134⟩, b5⟩
      have G9 : Hid (RP w s nx w2.heap.size ⟨pa, pb, pc, pd, pf⟩ w9) := Lib.hid (by first | exact G8.out.keep b5 | exact G8.out.keep (Below.trans (below_drewN (Below.refl _ _) _) b5))
      have B00 := Lib.hid i134
      clear b5 G8 i134
      go_wp2_with fail
      refine (two_walk _ _ _ _ (gnF s P dt D).c00 (fsub nx.pxv P.pxv) (gnF s P dt D).c01 (fsub nx.pvv P.pvv) _ A00.out E4.out A01.out E5.out).mono ?_
      rintro e w10 ⟨v139, rfl, ⟨i139, l139⟩, b5⟩
      have G10 : Hid (RP w s nx w2.heap.size ⟨pa, pb, pc, pd, pf⟩ w10) := Lib.hid (by first | exact G9.out.keep b5 | exact G9.out.keep (Below.trans (below_drewN (Below.refl _ _) _) b5))
      have B01 := Lib.hid i139
      clear b5 G9 i139
      go_wp2_with fail
      refine (two_walk _ _ _ _ (gnF s P dt D).c10 (fsub nx.pxx P.pxx) (gnF s P dt D).c11 (fsub nx.pxv P.pxv) _ A10.out E3.out A11.out E4.out).mono ?_
      rintro e w11 ⟨v144, rfl, ⟨i144, l144⟩, b5⟩
      have G11 : Hid (RP w s nx w2.heap.size ⟨pa, pb, pc, pd, pf⟩ w11) := Lib.hid (by first | exact G10.out.keep b5 | exact G10.out.keep (Below.trans (below_drewN (Below.refl _ _) _) b5))
      have B10 := Lib.hid i144
      clear b5 G10 i144
      go_wp2_with fail
      refine (two_walk _ _ _ _ (gnF s P dt D).c10 (fsub nx.pxv P.pxv) (gnF s P dt D).c11 (fsub nx.pvv P.pvv) _ A10.out E4.out A11.out E5.out).mono ?_
      rintro e w12 ⟨v149, rfl, ⟨i149, l149⟩, b5⟩
      have G12 : Hid (RP w s nx w2.heap.size ⟨pa, pb, pc, pd, pf⟩ w12) := Lib.hid (by first | exact G11.out.keep b5 | exact G11.out.keep (Below.trans (below_drewN (Below.refl _ _) _) b5))
      have B11 := Lib.hid i149
      clear b5 G11 i149
      obtain ⟨s0, s1, s2, s3, s4⟩ := G12.out.r.bs.cells
      have zs := G12.out.r.bs.lt
      have zp := G12.out.bp.lt
      go_upto_region 22 with fail
      go_cut [28] (fun s28 wx => ∃ k : Nat, s28 = .pointer (some ⟨k, 0, none⟩) ∧ RM w s nx ⟨pa, pb, pc, pd, pf⟩ w2.heap.size (gain0F s P nx (gnF s P dt D)) k wx)
      case first =>
        as_aux_lemma =>
        refine wp_region_G_tail 42 TY (by kernel_rfl) (by kernel_rfl) ?_
        simp only [List.take, List.drop]
        refine wpG_step' (fun K hA hK => ?_); go_simp; (refine bothG_value hA (v := ?_) (fun w' hw' => ?_) ?_; rotate_left; (· go_simp; rfl); (refine hK _ _ ?_; clear hK hA K))
        refine wpG_step' (fun K hA hK => ?_); go_simp; (refine bothG_value hA (v := ?_) (fun w' hw' => ?_) ?_; rotate_left; (· go_simp; rfl); (refine hK _ _ ?_; clear hK hA K))
        refine wpG_step' (fun K hA hK => ?_); go_simp; (refine bothG_value hA (v := ?_) (fun w' hw' => ?_) ?_; rotate_left; (· go_simp; rfl); (refine hK _ _ ?_; clear hK hA K))
        refine wpG_step' (fun K hA hK => ?_); go_simp; (refine bothG_value hA (v := ?_) (fun w' hw' => ?_) ?_; rotate_left; (· go_simp; rfl); (refine hK _ _ ?_; clear hK hA K))
        refine wpG_step' (fun K hA hK => ?_); go_simp; (refine bothG_value hA (v := ?_) (fun w' hw' => ?_) ?_; rotate_left; (· go_simp; rfl); (refine hK _ _ ?_; clear hK hA K))
        refine wpG_step' (fun K hA hK => ?_); go_simp; (refine bothG_value hA (v := ?_) (fun w' hw' => ?_) ?_; rotate_left; (· go_simp; rfl); (refine hK _ _ ?_; clear hK hA K))
        refine wpG_step' (fun K hA hK => ?_); go_simp; (refine bothG_call (o := ⟨some 156, _, _, _, _, _⟩) (f := 55) (args := ?_) (fun w' => ?_) (fun w' _ => ?_) ?_; rotate_left; (· go_simp; rfl); (· exact tx_55 _ _ _ _ w'); (intro u y156 hu; obtain ⟨a', b', c', d', x156, ha', rfl, l156, h156⟩ := hu.t55 rfl; cases ha'; refine hK _ _ ?_; clear hK hA K))
        refine wpG_step' (fun K hA hK => ?_); go_simp; (first | (refine bothG_float (o := ⟨some 157, _, _, _, _, _⟩) hA (x := ?_) (y := ?_) (X := ?_) (Y := ?_) rfl ?_ ?_ ?_ ?_ ?_ ?_; rotate_left 4; (· rfl); (· rfl); (· rfl); (· first | assumption | exact Is.refl _); (· first | assumption | exact Is.refl _); intro x157 h157 l157; refine hK _ _ ?_; clear hK hA K))
        refine wpG_step' (fun K hA hK => ?_); go_simp; (refine bothG_value hA (v := ?_) (fun w' hw' => ?_) ?_; rotate_left; (· go_simp; rfl); (refine hK _ _ ?_; clear hK hA K))
        refine wpG_step' (fun K hA hK => ?_); go_simp; (refine bothG_value hA (v := ?_) (fun w' hw' => ?_) ?_; rotate_left; (· go_simp; rfl); (refine hK _ _ ?_; clear hK hA K))
        refine wpG_step' (fun K hA hK => ?_); go_simp; (refine bothG_value hA (v := ?_) (fun w' hw' => ?_) ?_; rotate_left; (· go_simp; rfl); (refine hK _ _ ?_; clear hK hA K))
        refine wpG_step' (fun K hA hK => ?_); go_simp; (refine bothG_value hA (v := ?_) (fun w' hw' => ?_) ?_; rotate_left; (· go_simp; rfl); (refine hK _ _ ?_; clear hK hA K))
        refine wpG_step' (fun K hA hK => ?_); go_simp; (refine bothG_value hA (v := ?_) (fun w' hw' => ?_) ?_; rotate_left; (· go_simp; rfl); (refine hK _ _ ?_; clear hK hA K))
        refine wpG_step' (fun K hA hK => ?_); go_simp; (refine bothG_value hA (v := ?_) (fun w' hw' => ?_) ?_; rotate_left; (· go_simp; rfl); (refine hK _ _ ?_; clear hK hA K))
        refine wpG_step' (fun K hA hK => ?_); go_simp; (refine bothG_call (o := ⟨some 164, _, _, _, _, _⟩) (f := 55) (args := ?_) (fun w' => ?_) (fun w' _ => ?_) ?_; rotate_left; (· go_simp; rfl); (· exact tx_55 _ _ _ _ w'); (intro u y164 hu; obtain ⟨a', b', c', d', x164, ha', rfl, l164, h164⟩ := hu.t55 rfl; cases ha'; refine hK _ _ ?_; clear hK hA K))
        refine wpG_step' (fun K hA hK => ?_); go_simp; (first | (refine bothG_float (o := ⟨some 165, _, _, _, _, _⟩) hA (x := ?_) (y := ?_) (X := ?_) (Y := ?_) rfl ?_ ?_ ?_ ?_ ?_ ?_; rotate_left 4; (· rfl); (· rfl); (· rfl); (· first | assumption | exact Is.refl _); (· first | assumption | exact Is.refl _); intro x165 h165 l165; refine hK _ _ ?_; clear hK hA K))
        refine wpG_step' (fun K hA hK => ?_); go_simp; (refine bothG_value hA (v := ?_) (fun w' hw' => ?_) ?_; rotate_left; (· go_simp; rfl); (refine hK _ _ ?_; clear hK hA K))
        refine wpG_step' (fun K hA hK => ?_); go_simp; (refine bothG_value hA (v := ?_) (fun w' hw' => ?_) ?_; rotate_left; (· go_simp; rfl); (refine hK _ _ ?_; clear hK hA K))
        refine wpG_step' (fun K hA hK => ?_); go_simp; (refine bothG_value hA (v := ?_) (fun w' hw' => ?_) ?_; rotate_left; (· go_simp; rfl); (refine hK _ _ ?_; clear hK hA K))
        refine wpG_step' (fun K hA hK => ?_); go_simp; (refine bothG_value hA (v := ?_) (fun w' hw' => ?_) ?_; rotate_left; (· go_simp; rfl); (refine hK _ _ ?_; clear hK hA K))
        refine wpG_step' (fun K hA hK => ?_); go_simp; (refine bothG_value hA (v := ?_) (fun w' hw' => ?_) ?_; rotate_left; (· go_simp; rfl); (refine hK _ _ ?_; clear hK hA K))
        refine wpG_step' (fun K hA hK => ?_); go_simp; (refine bothG_value hA (v := ?_) (fun w' hw' => ?_) ?_; rotate_left; (· go_simp; rfl); (refine hK _ _ ?_; clear hK hA K))
        refine wpG_step' (fun K hA hK => ?_); go_simp; (refine bothG_call (o := ⟨some 172, _, _, _, _, _⟩) (f := 55) (args := ?_) (fun w' => ?_) (fun w' _ => ?_) ?_; rotate_left; (· go_simp; rfl); (· exact tx_55 _ _ _ _ w'); (intro u y172 hu; obtain ⟨a', b', c', d', x172, ha', rfl, l172, h172⟩ := hu.t55 rfl; cases ha'; refine hK _ _ ?_; clear hK hA K))
        refine wpG_step' (fun K hA hK => ?_); go_simp; (first | (refine bothG_float (o := ⟨some 173, _, _, _, _, _⟩) hA (x := ?_) (y := ?_) (X := ?_) (Y := ?_) rfl ?_ ?_ ?_ ?_ ?_ ?_; rotate_left 4; (· rfl); (· rfl); (· rfl); (· first | assumption | exact Is.refl _); (· first | assumption | exact Is.refl _); intro x173 h173 l173; refine hK _ _ ?_; clear hK hA K))
        refine wpG_step' (fun K hA hK => ?_); go_simp; (refine bothG_value hA (v := ?_) (fun w' hw' => ?_) ?_; rotate_left; (· go_simp; rfl); (refine hK _ _ ?_; clear hK hA K))
        refine wpG_step' (fun K hA hK => ?_); go_simp; (refine bothG_value hA (v := ?_) (fun w' hw' => ?_) ?_; rotate_left; (· go_simp; rfl); (refine hK _ _ ?_; clear hK hA K))
        refine wpG_step' (fun K hA hK => ?_); go_simp; (refine bothG_value hA (v := ?_) (fun w' hw' => ?_) ?_; rotate_left; (· go_simp; rfl); (refine hK _ _ ?_; clear hK hA K))
        refine wpG_step' (fun K hA hK => ?_); go_simp; (refine bothG_value hA (v := ?_) (fun w' hw' => ?_) ?_; rotate_left; (· go_simp; rfl); (refine hK _ _ ?_; clear hK hA K))
        refine wpG_step' (fun K hA hK => ?_); go_simp; (refine bothG_value hA (v := ?_) (fun w' hw' => ?_) ?_; rotate_left; (· go_simp; rfl); (refine hK _ _ ?_; clear hK hA K))
        refine wpG_step' (fun K hA hK => ?_); go_simp; (refine bothG_value hA (v := ?_) (fun w' hw' => ?_) ?_; rotate_left; (· go_simp; rfl); (refine hK _ _ ?_; clear hK hA K))
        refine wpG_step' (fun K hA hK => ?_); go_simp; (refine bothG_call (o := ⟨some 180, _, _, _, _, _⟩) (f := 55) (args := ?_) (fun w' => ?_) (fun w' _ => ?_) ?_; rotate_left; (· go_simp; rfl); (· exact tx_55 _ _ _ _ w'); (intro u y180 hu; obtain ⟨a', b', c', d', x180, ha', rfl, l180, h180⟩ := hu.t55 rfl; cases ha'; refine hK _ _ ?_; clear hK hA K))
        refine wpG_step' (fun K hA hK => ?_); go_simp; (first | (refine bothG_float (o := ⟨some 181, _, _, _, _, _⟩) hA (x := ?_) (y := ?_) (X := ?_) (Y := ?_) rfl ?_ ?_ ?_ ?_ ?_ ?_; rotate_left 4; (· rfl); (· rfl); (· rfl); (· first | assumption | exact Is.refl _); (· first | assumption | exact Is.refl _); intro x181 h181 l181; refine hK _ _ ?_; clear hK hA K))
        refine wpG_step' (fun K hA hK => ?_); go_simp; (refine bothG_value hA (v := ?_) (fun w' hw' => ?_) ?_; rotate_left; (· go_simp; rfl); (refine hK _ _ ?_; clear hK hA K))
        refine wpG_step' (fun K hA hK => ?_); go_simp; (refine bothG_value hA (v := ?_) (fun w' hw' => ?_) ?_; rotate_left; (· go_simp; rfl); (refine hK _ _ ?_; clear hK hA K))
        refine wpG_step' (fun K hA hK => ?_); go_simp; (refine bothG_value hA (v := ?_) (fun w' hw' => ?_) ?_; rotate_left; (· go_simp; rfl); (refine hK _ _ ?_; clear hK hA K))
        refine wpG_step' (fun K hA hK => ?_); go_simp; (refine bothG_value hA (v := ?_) (fun w' hw' => ?_) ?_; rotate_left; (· go_simp; rfl); (refine hK _ _ ?_; clear hK hA K))
        refine wpG_step' (fun K hA hK => ?_); go_simp; (refine bothG_value hA (v := ?_) (fun w' hw' => ?_) ?_; rotate_left; (· go_simp; rfl); (refine hK _ _ ?_; clear hK hA K))
        refine wpG_step' (fun K hA hK => ?_); go_simp; (refine bothG_value hA (v := ?_) (fun w' hw' => ?_) ?_; rotate_left; (· go_simp; rfl); (refine hK _ _ ?_; clear hK hA K))
        refine wpG_step' (fun K hA hK => ?_); go_simp; (refine bothG_call (o := ⟨some 188, _, _, _, _, _⟩) (f := 55) (args := ?_) (fun w' => ?_) (fun w' _ => ?_) ?_; rotate_left; (· go_simp; rfl); (· exact tx_55 _ _ _ _ w'); (intro u y188 hu; obtain ⟨a', b', c', d', x188, ha', rfl, l188, h188⟩ := hu.t55 rfl; cases ha'; refine hK _ _ ?_; clear hK hA K))
        refine wpG_step' (fun K hA hK => ?_); go_simp; (first | (refine bothG_float (o := ⟨some 189, _, _, _, _, _⟩) hA (x := ?_) (y := ?_) (X := ?_) (Y := ?_) rfl ?_ ?_ ?_ ?_ ?_ ?_; rotate_left 4; (· rfl); (· rfl); (· rfl); (· first | assumption | exact Is.refl _); (· first | assumption | exact Is.refl _); intro x189 h189 l189; refine hK _ _ ?_; clear hK hA K))
        refine wpG_step' (fun K hA hK => ?_); go_simp; (refine bothG_value hA (v := ?_) (fun w' hw' => ?_) ?_; rotate_left; (· go_simp; rfl); (refine hK _ _ ?_; clear hK hA K))
        refine wpG_step' (fun K hA hK => ?_); go_simp; (refine bothG_alloc (ob := ?_) (fun w' => ?_) ?_; rotate_left; (· go_simp; rfl); (intro g28 xg hn1 hn2 hn3; refine hK _ _ ?_; clear hK hA K))
        refine wpG_nil ?_
        intro w16 hb hF
        have T16 := Lib.hid (G12.out.keep hb)
        have bn := (hF.2.block g28 hn2).trans hn3
        have zg : w2.heap.size < g28 := Nat.lt_of_lt_of_le zp hn1
        have I157 := Lib.hid (show Is x157 (fadd s.x (pairF (gnF s P dt D).c00 (fsub nx.x P.x) (gnF s P dt D).c01 (fsub nx.v P.v))) by rw [← pairF_is A00.out E1.out A01.out E2.out]; exact h157)
        have I165 := Lib.hid (show Is x165 (fadd s.v (pairF (gnF s P dt D).c10 (fsub nx.x P.x) (gnF s P dt D).c11 (fsub nx.v P.v))) by rw [← pairF_is A10.out E1.out A11.out E2.out]; exact h165)
        have I173 := Lib.hid (show Is x173 (gain0F s P nx (gnF s P dt D)).pxx by unfold gain0F; simp only; rw [← pairF_is B00.out A00.out B01.out A01.out]; exact h173)
        have I181 := Lib.hid (show Is x181 (gain0F s P nx (gnF s P dt D)).pxv by unfold gain0F; simp only; rw [← pairF_is B00.out A10.out B01.out A11.out]; exact h181)
        have I189 := Lib.hid (show Is x189 (gain0F s P nx (gnF s P dt D)).pvv by unfold gain0F; simp only; rw [← pairF_is B10.out A10.out B11.out A11.out]; exact h189)
        have LL := Lib.hid (show St.Lt ⟨x157, x165, x173, x181, x189⟩ from ⟨l157, l165, l173, l181, l189⟩)
        clear hb hF hn1 hn2 hn3 h156 h157 h164 h165 h172 h173 h180 h181 h188 h189 l156 l157 l164 l165 l172 l173 l180 l181 l188 l189 s0 s1 s2 s3 s4 zs zp G12
        refine wpList_store_at rfl rfl (g := g28) (j := 0) rfl rfl bn (by kernel_rfl) (Nat.le_of_ble_eq_true rfl) (one_fl5 _ _ _ _ _) ?_
        intro w17 b5 ob5
        have b6 : Bs w17 g28 ⟨x157, x165, x173, x181, x189⟩ := b5
        have T17 := T16.out.only ob5 zg
        clear b5 ob5 bn T16
        go_wp2_with fail
        go_meet
        exact ⟨g28, rfl, _, T17, b6, ⟨I157.out, I165.out, I173.out, I181.out, I189.out⟩, LL.out, zg⟩
      case rest =>
        obtain ⟨w17, rfl⟩ : ∃ x, x = wc := ⟨_, rfl⟩
        obtain ⟨k28, rfl, o, t17, bo, io, lo, zo⟩ := hcut
        have T17 := Lib.hid t17
        have BO := Lib.hid bo
        have IO := Lib.hid io
        have LO := Lib.hid lo
        obtain ⟨p0, p1, p2, p3, p4⟩ := bo.cells
        have f2 := bo.frozen 2
        have z1 := bo.lt
        clear t17 bo io lo G12 A00 A01 A10 A11 B00 B01 B10 B11 E1 E2 E3 E4 E5 s0 s1 s2 s3 s4 zs zp
        go_upto_if 193 with fail
        go_cut [] (fun wx => RM w s nx ⟨pa, pb, pc, pd, pf⟩ w2.heap.size { gain0F s P nx (gnF s P dt D) with pxx := nnF (gain0F s P nx (gnF s P dt D)).pxx } k28 wx)
        case first =>
          as_aux_lemma =>
          go_wp2_with fail
          · have hq : clt (gain0F s P nx (gnF s P dt D)).pxx 0 = true := ((clt_is IO.out.pxx (Is.refl 0)).symm.trans ‹(FloatKind.f64.format.order o.pxx 0 == some Ordering.lt) = true›)
            go_meet
            exact ⟨{ o with pxx := 0 }, T17.out.only (only_set _ _ _ _) zo, BO.out.set2 0, ⟨IO.out.x, IO.out.v, by simp only; unfold nnF; rw [if_pos hq]; exact Is.refl _, IO.out.pxv, IO.out.pvv⟩, ⟨LO.out.x, LO.out.v, Nat.two_pow_pos 64, LO.out.pxv, LO.out.pvv⟩, zo⟩
          · have hq : clt (gain0F s P nx (gnF s P dt D)).pxx 0 = false := ((clt_is IO.out.pxx (Is.refl 0)).symm.trans ‹(FloatKind.f64.format.order o.pxx 0 == some Ordering.lt) = false›)
            go_meet
            exact ⟨o, T17.out, BO.out, ⟨IO.out.x, IO.out.v, by simp only; unfold nnF; rw [if_neg (by rw [hq]; exact Bool.false_ne_true)]; exact IO.out.pxx, IO.out.pxv, IO.out.pvv⟩, LO.out, zo⟩
        case rest =>
          obtain ⟨w18, rfl⟩ : ∃ x, x = wc := ⟨_, rfl⟩
          obtain ⟨o4, t17, bo, io, lo, _⟩ := hcut
          clear T17 BO IO LO p0 p1 p2 p3 p4 f2 z1
          have T17 := Lib.hid t17
          have BO := Lib.hid bo
          have IO := Lib.hid io
          have LO := Lib.hid lo
          obtain ⟨p0, p1, p2, p3, p4⟩ := bo.cells
          have f2 := bo.frozen 4
          have z1 := bo.lt
          clear t17 bo io lo
          go_upto_if 197 with fail
          go_cut [] (fun wx => RM w s nx ⟨pa, pb, pc, pd, pf⟩ w2.heap.size (gainF s P nx dt D) k28 wx)
          case first =>
            as_aux_lemma =>
            go_wp2_with fail
            · have hq : clt (gain0F s P nx (gnF s P dt D)).pvv 0 = true := ((clt_is IO.out.pvv (Is.refl 0)).symm.trans ‹(FloatKind.f64.format.order o4.pvv 0 == some Ordering.lt) = true›)
              go_meet
              exact ⟨{ o4 with pvv := 0 }, T17.out.only (only_set _ _ _ _) zo, BO.out.set4 0, ⟨IO.out.x, IO.out.v, IO.out.pxx, IO.out.pxv, by simp only [gainF, nnS]; unfold nnF; rw [if_pos hq]; exact Is.refl _⟩, ⟨LO.out.x, LO.out.v, LO.out.pxx, LO.out.pxv, Nat.two_pow_pos 64⟩, zo⟩
            · have hq : clt (gain0F s P nx (gnF s P dt D)).pvv 0 = false := ((clt_is IO.out.pvv (Is.refl 0)).symm.trans ‹(FloatKind.f64.format.order o4.pvv 0 == some Ordering.lt) = false›)
              go_meet
              exact ⟨o4, T17.out, BO.out, ⟨IO.out.x, IO.out.v, IO.out.pxx, IO.out.pxv, by simp only [gainF, nnS]; unfold nnF; rw [if_neg (by rw [hq]; exact Bool.false_ne_true)]; exact IO.out.pvv⟩, LO.out, zo⟩
          case rest =>
            obtain ⟨w19, rfl⟩ : ∃ x, x = wc := ⟨_, rfl⟩
            obtain ⟨o5, t17, bo, io, lo, _⟩ := hcut
            clear T17 BO IO LO p0 p1 p2 p3 p4 f2 z1
            have T17 := Lib.hid t17
            have IO := Lib.hid io
            have LO := Lib.hid lo
            obtain ⟨p0, p1, p2, p3, p4⟩ := bo.cells
            have z1 := bo.lt
            obtain ⟨s0, s1, s2, s3, s4⟩ := t17.r.bs.cells
            have zs := t17.r.bs.lt
            have zr := t17.r.br.lt
            have FB : Hid (finS o5 = finS (gainF s P nx dt D)) := Lib.hid (finS_is io)
            clear t17 bo io lo
            rcases finS_cases o5 with h1 | ⟨h1, h2⟩ | ⟨h1, h2, h3⟩ | ⟨h1, h2, h3, h4⟩ | ⟨h1, h2, h3, h4, h5⟩ | ⟨h1, h2, h3, h4, h5⟩
            iterate 5
              next =>
                have E2 : Hid (stepF s dt q nx = s) := Lib.hid (by rw [E.out, ← FB.out]; unfold finS; simp [*])
                have br : w19.heap[w.heap.size + 1 + 1]? = some (.cells #[.float .f64 0, .float .f64 0, .float .f64 0, .float .f64 0, .float .f64 0] 27 (0, 0)) := T17.out.r.br
                have HBZ := Lib.hid T17.out.r.hb
                go_wp2_with (first | (go_at_call 34; refine (isfin_walk _ _).mono ?_; rintro e w9 ⟨rfl, rfl⟩) | (refine wpList_store_at rfl rfl (g := w.heap.size + 1 + 1) (j := 0) rfl rfl br (by kernel_rfl) (Nat.le_of_ble_eq_true rfl) (one_fl5 _ _ _ _ _) ?_; intro w9 b9 o9; have B9 : Bs w9 (w.heap.size + 1 + 1) s := b9; have HB9 := Lib.hid (HBZ.out.trans (o9.below (by omega))); obtain ⟨r0, r1, r2, r3, r4⟩ := B9.cells; clear b9 o9 br B9))
                refine bodyPost_ret (v := ?_) ?_ rfl ?_
                rotate_left
                · simp [results, Try.results35, go_sem, r0, r1, r2, r3, r4]; rfl
                · exact ⟨s, rfl, (by rw [E2.out]; exact IsS.refl _), HL.out, HB9.out⟩
            have E2 : Hid (stepF s dt q nx = gainF s P nx dt D) := Lib.hid (by rw [E.out, ← FB.out]; unfold finS; simp [*])
            have br : w19.heap[w.heap.size + 1 + 1]? = some (.cells #[.float .f64 0, .float .f64 0, .float .f64 0, .float .f64 0, .float .f64 0] 27 (0, 0)) := T17.out.r.br
            have HBZ := Lib.hid T17.out.r.hb
            go_wp2_with (first | (go_at_call 34; refine (isfin_walk _ _).mono ?_; rintro e w9 ⟨rfl, rfl⟩) | (refine wpList_store_at rfl rfl (g := w.heap.size + 1 + 1) (j := 0) rfl rfl br (by kernel_rfl) (Nat.le_of_ble_eq_true rfl) (one_fl5 _ _ _ _ _) ?_; intro w9 b9 o9; have B9 : Bs w9 (w.heap.size + 1 + 1) o5 := b9; have HB9 := Lib.hid (HBZ.out.trans (o9.below (by omega))); obtain ⟨r0, r1, r2, r3, r4⟩ := B9.cells; clear b9 o9 br B9))
            refine bodyPost_ret (v := ?_) ?_ rfl ?_
            rotate_left
            · simp [results, Try.results35, go_sem, r0, r1, r2, r3, r4]; rfl
            · exact ⟨o5, rfl, (by rw [E2.out]; exact IO.out), LO.out, HB9.out⟩
end Go.Proofs.Ytoobpiednigcgaa
