import Derived.Test.YtdngkeefbpffcaaPlL
import Derived.Test.YtdngkeefbpffcaaPlA
import Derived.Test.YtdngkeefbpffcaaRsR
import Derived.Test.YtdngkeefbpffcaaFlZ
import Derived.Maps.AppendAt
set_option autoImplicit false
set_option linter.unusedVariables false
namespace Pl
open Lk
def dF (x y m : Nat) : Bool := cle (fabs (fsub x y)) m
/-- is p near q? -/
def nearB (m s : Nat) (p q : Pt) : Bool := dF p.range q.range m && dF p.speed q.speed s
end Pl
namespace Go.Proofs.Ytdngkeefbpffcaa
open Go.RowKit Lk Pl
theorem Sp.low {w w' : World} {C : Nat} {a : Option Addr} {n cap : Nat} {l : List Pt} (h : Sp w a n cap l) (hb : ∀ q, a = some q → q.block < C) (b : Below C w w') : Sp w' a n cap l :=
  ⟨h.len, h.le, h.small, h.lt, h.cells.imp id fun ⟨g, off, ha, hg, hc⟩ => ⟨g, off, ha, Nat.lt_of_lt_of_le hg b.size, fun j hj => (hc j hj).keep (hb _ ha) b⟩, h.nil⟩
def flv (P : List Nat) : List Value := P.map (fun x => Value.float .f64 x)
/-- what the closure of Merge holds and only reads -/
structure Mc (C : Nat) (w : World) (kl ko km ks : Nat) (a : Option Addr) (n cap : Nat) (l : List Pt) (one : Pt) (m s : Nat) : Prop where
  cl : w.cell? ⟨kl, 0, none⟩ = some (.slice a n cap)
  on : AtP w ko 0 one
  cm : w.cell? ⟨km, 0, none⟩ = some (.float .f64 m)
  cs : w.cell? ⟨ks, 0, none⟩ = some (.float .f64 s)
  sp : Sp w a n cap l
  lo : PtLt one
  k1 : kl < C
  k2 : ko < C
  k3 : km < C
  k4 : ks < C
  kz : C ≤ w.heap.size
  sb : ∀ q, a = some q → q.block < C
theorem Mc.low {C : Nat} {w w' : World} {kl ko km ks : Nat} {a : Option Addr} {n cap : Nat} {l : List Pt} {one : Pt} {m s : Nat} (h : Mc C w kl ko km ks a n cap l one m s) (b : Below C w w') : Mc C w' kl ko km ks a n cap l one m s :=
  ⟨(b.cell (p := ⟨kl, 0, none⟩) h.k1).trans h.cl, h.on.keep h.k2 b, (b.cell (p := ⟨km, 0, none⟩) h.k3).trans h.cm, (b.cell (p := ⟨ks, 0, none⟩) h.k4).trans h.cs, h.sp.low h.sb b, h.lo, h.k1, h.k2, h.k3, h.k4, Nat.le_trans h.kz b.size, h.sb⟩
/-- .. and what it writes: the powers -/
structure Mp (C : Nat) (w : World) (kp : Nat) (v : Value) (P : List Nat) : Prop where
  cp : w.heap[kp]? = some (.cells #[v] 72 (0, 0))
  hk : C ≤ kp
  own : w.ownsRow C 22 1 v P.length (flv P)
  ne : v.ownBlock ≠ some kp
theorem Mp.keep {C : Nat} {w w' : World} {kp : Nat} {v : Value} {P : List Nat} (h : Mp C w kp v P) (b : Below w.heap.size w w') : Mp C w' kp v P := by
  refine ⟨(b.block _ (Array.getElem?_eq_some_iff.1 h.cp).1).trans h.cp, h.hk, ?_, h.ne⟩
  refine ⟨h.own.1, h.own.2.imp id ?_⟩
  rintro ⟨g, c, cur, h0, h1, h2, h3⟩
  exact ⟨g, c, cur, h0, h1, (b.block _ (Array.getElem?_eq_some_iff.1 h2).1).trans h2, h3⟩
theorem dF_is {x y m v : Nat} (h : Is v (fsub x y)) : (FloatKind.f64.format.order (fabs v) m == some Ordering.lt || FloatKind.f64.format.order (fabs v) m == some Ordering.eq) = dF x y m := cle_is (is_fabs h) (Is.refl _)
theorem f_cells {w : World} {g : Nat} {x : Nat} {ty : TypeId} (h : w.heap[g]? = some (.cells #[.float .f64 x] ty (0, 0))) : ∀ (j : Nat) (u : Value), (flv [x])[j]? = some u → w.cell? ((⟨g, 0, none⟩ : Addr).add j) = some u := by
  intro j u hu
  rw [Addr.add_lit]
  simp only [World.cell?, h, Nat.zero_add]
  simpa [flv] using hu
theorem f_one (x : Nat) : ∀ u ∈ flv [x], u.oneCell' = true := by
  intro u hu
  simp only [flv, List.map_cons, List.map_nil, List.mem_singleton] at hu
  subst hu; rfl
theorem flv_snoc (P : List Nat) (x : Nat) : flv P ++ flv [x] = flv (P ++ [x]) := by unfold flv; simp
/-- the powers grew -/
structure Mg (C : Nat) (w w6 : World) (kp : Nat) (u u' : Value) (P : List Nat) (x : Nat) : Prop where
  blk : w6.heap[kp]? = some (.cells #[u] 72 (0, 0))
  lt : kp < w6.heap.size
  b6 : Below C w w6
  mp : Mp C (w6.setCell ⟨kp, 0, none⟩ u') kp u' (P ++ [x])
  b7 : Below C w (w6.setCell ⟨kp, 0, none⟩ u')
theorem Mp.grow {C : Nat} {w w6 : World} {ob : Obj} {kp : Nat} {u u' : Value} {P : List Nat} {x : Nat} (h : Mp C w kp u P) (hC : C ≤ w.heap.size) (ow : w6.ownsRow C 22 1 u' (P.length + 1) (flv P ++ flv [x])) (gr : (w.alloc ob).grownBy w6 u.ownBlock)
    (hat : u'.ownBlock = u.ownBlock ∨ u'.ownBlock = some (w.alloc ob).heap.size) : Mg C w w6 kp u u' P x := by
  have kl := (Array.getElem?_eq_some_iff.1 h.cp).1
  have e : w6.heap[kp]? = some (.cells #[u] 72 (0, 0)) := (gr.block kp (by simp; omega) (fun e => h.ne e.symm)).trans ((Deep.blk_alloc_lt w ob kp kl).trans h.cp)
  have b6 : Below C w w6 := rs_grown (((Below.refl C w)).alloc hC ob) gr (h.own.alloc ob) (by simp; omega)
  have ne : u'.ownBlock ≠ some kp := by
    rcases hat with q | q
    · rw [q]; exact h.ne
    · rw [q]; intro q2; have q3 := Option.some.inj q2; simp at q3; omega
  have b7 : Below C w (w6.setCell ⟨kp, 0, none⟩ u') := b6.setCell h.hk u'
  refine ⟨e, (Array.getElem?_eq_some_iff.1 e).1, b6, ⟨?_, h.hk, ?_, ne⟩, b7⟩
  · rw [cells_set w6 kp 0 u' e]; rfl
  · rw [List.length_append, ← flv_snoc]
    exact rs_own ow fun g hg => Deep.blk_setCell_other _ _ _ _ (fun q => ne (by rw [hg, q]))
theorem Try.undF : Try.prog.underlying 72 = some (.slice 22) := by kernel_rfl
theorem f_info : (Try.prog.info? 22).map (fun i => (i.zero.map (fun z => z.cells.size), i.size, i.bytes)) = some (some 1, 1, 8) := by kernel_rfl
def addP (B : Bool) (P : List Nat) (x : Nat) : List Nat := match B with | true => P ++ [x] | false => P
set_option maxRecDepth 100000 in
set_option maxHeartbeats 4000000 in
theorem near_walk (C : Nat) (kl ko km ks kp : Nat) (a : Option Addr) (N cap : Nat) (l : List Pt) (one : Pt) (m s : Nat) (u : Value) (P : List Nat) (i : Nat) (p : Pt) (w : World) (h : Mc C w kl ko km ks a N cap l one m s) (q : Mp C w kp u P) (hPl : P.length ≤ 1048576) (B : Bool) (hB : nearB m s p one = B) (hp : l[i]? = some p) :
    Calls Try.prog 44 #[.int .i64 i, .pointer (some ⟨kl, 0, none⟩), .pointer (some ⟨ko, 0, none⟩), .pointer (some ⟨km, 0, none⟩), .pointer (some ⟨ks, 0, none⟩), .pointer (some ⟨kp, 0, none⟩)] w
      (fun e w' => e = .returned (.bool B) ∧ (∃ u', Mp C w' kp u' (addP B P p.power)) ∧ Below C w w') := by
  have li : i < N := by rw [← h.sp.len]; exact (List.getElem?_eq_some_iff.1 hp).1
  have n63 := Nat.le_trans h.sp.le h.sp.small
  obtain ⟨b, off, p', rfl, hb, hp', ⟨p0, p1, p2, p3, p4⟩, ltp⟩ := h.sp.at li
  obtain rfl : p = p' := by rw [hp] at hp'; exact Option.some.inj hp'
  have c1 := h.cl
  have c2 := h.on.c0
  have c3 := h.on.c1
  have c4 := h.cm
  have c5 := h.cs
  have z1 := Nat.lt_of_lt_of_le h.k1 h.kz
  have z2 := Nat.lt_of_lt_of_le h.k2 h.kz
  have z3 := Nat.lt_of_lt_of_le h.k3 h.kz
  have z4 := Nat.lt_of_lt_of_le h.k4 h.kz
  have kz := h.kz
  have bC : b < C := h.sb _ rfl
  have k1 := h.k1
  have HP := Lib.hid q
  have i1 : (i : Int) < N := by omega
  have LP := Lib.hid ltp
  have HB0 := Lib.hid hB
  clear p3 p4 hp hp' h q ltp hB
  go_enter Try.func44, Try.ntmps44
  go_upto_region 1 with fail
  go_cut [8] (fun s8 wx => s8 = .bool B ∧ Below w.heap.size w wx)
  case first =>
    refine wp_region_J 25 (fun x => Below w.heap.size w x) (by kernel_rfl) rfl (by kernel_rfl) ((Below.refl _ w).drew) (fun wj hJ hs => ?_)
    have HJ := Lib.hid hJ
    clear hJ
    (refine j_take 0 _ ?_ hs rfl rfl (by kernel_rfl) (by kernel_rfl) HJ.out (fun w' hw' => ?_) ?_; rotate_left; (· have d := (hw'.cell (p := ⟨kl, 0, none⟩) z1).trans c1; go_simp; rfl); (go_simp))
    (refine j_take 1 _ ?_ hs rfl rfl (by kernel_rfl) (by kernel_rfl) HJ.out (fun w' hw' => ?_) ?_; rotate_left; (· skip; go_simp; rfl); (go_simp))
    (refine j_take 2 _ ?_ hs rfl rfl (by kernel_rfl) (by kernel_rfl) HJ.out (fun w' hw' => ?_) ?_; rotate_left; (· skip; go_simp; rfl); (go_simp))
    (refine j_take 3 _ ?_ hs rfl rfl (by kernel_rfl) (by kernel_rfl) HJ.out (fun w' hw' => ?_) ?_; rotate_left; (· skip; go_simp; rfl); (go_simp))
    (refine j_take 4 _ ?_ hs rfl rfl (by kernel_rfl) (by kernel_rfl) HJ.out (fun w' hw' => ?_) ?_; rotate_left; (· have d := (hw'.cell (p := ⟨b, off + i * 5, none⟩) hb).trans p0; go_simp; rfl); (go_simp))
    (refine j_take 5 _ ?_ hs rfl rfl (by kernel_rfl) (by kernel_rfl) HJ.out (fun w' hw' => ?_) ?_; rotate_left; (· skip; go_simp; rfl); (go_simp))
    (refine j_take 6 _ ?_ hs rfl rfl (by kernel_rfl) (by kernel_rfl) HJ.out (fun w' hw' => ?_) ?_; rotate_left; (· have d := (hw'.cell (p := ⟨ko, 0, none⟩) z2).trans c2; go_simp; rfl); (go_simp))
    (refine j_take 9 _ ?_ hs rfl rfl (by kernel_rfl) (by kernel_rfl) HJ.out (fun w' hw' => ?_) ?_; rotate_left; (· have d := (hw'.cell (p := ⟨km, 0, none⟩) z3).trans c4; go_simp; rfl); (go_simp))
    refine j_one 7 _ rfl (by kernel_rfl) HJ.out ?_
    go_wp2_with ((with_reducible refine wpList_float (x := ?_) (y := ?_) (X := ?_) (Y := ?_) rfl rfl ?_ ?_ ?_ ?_ ?_ ?_); (· rfl); (rotate_left 4); (· rfl); (· rfl); (· first | assumption | exact Is.refl _); (· first | assumption | exact Is.refl _); intro v n hv hl)
    have HJ := Lib.hid (show Below w.heap.size w (wj.drewN n) from below_drewN HJ.out _)
    obtain ⟨w2, hw2⟩ : ∃ x, x = wj.drewN n := ⟨_, rfl⟩
    rw [← hw2] at HJ ⊢
    clear hw2
    obtain ⟨x1, h1⟩ : ∃ x, x = v := ⟨_, rfl⟩
    rw [← h1] at hv hl ⊢
    clear h1
    have L1 := Lib.hid (dF_is (m := m) hv)
    clear hv
    refine ⟨HJ.out, ?_⟩
    refine j_one 8 _ rfl (by kernel_rfl) HJ.out ?_
    go_wp2_with fail
    refine (abs_walk _ _ hl).mono ?_
    rintro e w3 ⟨rfl, rfl⟩
    go_wp2_with fail
    refine ⟨HJ.out, ?_⟩
    have l1 := L1.out
    generalize hb1 : dF p.range one.range m = B1 at l1
    have HB1 := Lib.hid hb1
    clear hb1 L1 hl
    refine j_one 10 _ rfl (by kernel_rfl) HJ.out ?_
    go_wp2_with fail
    refine ⟨HJ.out, ?_⟩
    clear l1
    (refine j_take 11 _ ?_ hs rfl rfl (by kernel_rfl) (by kernel_rfl) HJ.out (fun w' hw' => ?_) ?_; rotate_left; (· skip; go_simp; rfl); (go_simp))
    cases B1 with
    | false =>
      have RB : Hid (B = false) := Lib.hid (by rw [← HB0.out]; unfold nearB; rw [HB1.out]; rfl)
      (refine j_skip 12 _ hs rfl (by kernel_rfl) (by kernel_rfl) HJ.out ?_ ?_; (· go_simp); (go_simp))
      (refine j_skip 13 _ hs rfl (by kernel_rfl) (by kernel_rfl) HJ.out ?_ ?_; (· go_simp); (go_simp))
      (refine j_skip 14 _ hs rfl (by kernel_rfl) (by kernel_rfl) HJ.out ?_ ?_; (· go_simp); (go_simp))
      (refine j_skip 15 _ hs rfl (by kernel_rfl) (by kernel_rfl) HJ.out ?_ ?_; (· go_simp); (go_simp))
      (refine j_skip 16 _ hs rfl (by kernel_rfl) (by kernel_rfl) HJ.out ?_ ?_; (· go_simp); (go_simp))
      (refine j_skip 17 _ hs rfl (by kernel_rfl) (by kernel_rfl) HJ.out ?_ ?_; (· go_simp); (go_simp))
      (refine j_skip 18 _ hs rfl (by kernel_rfl) (by kernel_rfl) HJ.out ?_ ?_; (· go_simp); (go_simp))
      (refine j_skip 19 _ hs rfl (by kernel_rfl) (by kernel_rfl) HJ.out ?_ ?_; (· go_simp); (go_simp))
      (refine j_skip 20 _ hs rfl (by kernel_rfl) (by kernel_rfl) HJ.out ?_ ?_; (· go_simp); (go_simp))
      (refine j_skip 21 _ hs rfl (by kernel_rfl) (by kernel_rfl) HJ.out ?_ ?_; (· go_simp); (go_simp))
      (refine j_skip 22 _ hs rfl (by kernel_rfl) (by kernel_rfl) HJ.out ?_ ?_; (· go_simp); (go_simp))
      (refine j_take 23 _ ?_ hs rfl rfl (by kernel_rfl) (by kernel_rfl) HJ.out (fun w' hw' => ?_) ?_; rotate_left; (· skip; go_simp; rfl); (go_simp))
      (refine j_take 24 _ ?_ hs rfl rfl (by kernel_rfl) (by kernel_rfl) HJ.out (fun w' hw' => ?_) ?_; rotate_left; (· skip; go_simp; rfl); (go_simp))
      refine j_done (by kernel_rfl) ?_
      go_wp2_with fail
      go_meet
      exact ⟨by rw [RB.out], HJ.out⟩
    | true =>
      (refine j_take2 12 _ ?_ hs rfl (by kernel_rfl) (by kernel_rfl) HJ.out ?_ (fun w' hw' => ?_) ?_; rotate_left; (· go_simp); (· have d := (hw'.cell (p := ⟨kl, 0, none⟩) z1).trans c1; go_simp; rfl); (go_simp))
      (refine j_take2 13 _ ?_ hs rfl (by kernel_rfl) (by kernel_rfl) HJ.out ?_ (fun w' hw' => ?_) ?_; rotate_left; (· go_simp); (· skip; go_simp; rfl); (go_simp))
      (refine j_take2 14 _ ?_ hs rfl (by kernel_rfl) (by kernel_rfl) HJ.out ?_ (fun w' hw' => ?_) ?_; rotate_left; (· go_simp); (· skip; go_simp; rfl); (go_simp))
      (refine j_take2 15 _ ?_ hs rfl (by kernel_rfl) (by kernel_rfl) HJ.out ?_ (fun w' hw' => ?_) ?_; rotate_left; (· go_simp); (· skip; go_simp; rfl); (go_simp))
      (refine j_take2 16 _ ?_ hs rfl (by kernel_rfl) (by kernel_rfl) HJ.out ?_ (fun w' hw' => ?_) ?_; rotate_left; (· go_simp); (· have d := (hw'.cell (p := ⟨b, off + i * 5 + 1, none⟩) hb).trans p1; go_simp; rfl); (go_simp))
      (refine j_take2 17 _ ?_ hs rfl (by kernel_rfl) (by kernel_rfl) HJ.out ?_ (fun w' hw' => ?_) ?_; rotate_left; (· go_simp); (· skip; go_simp; rfl); (go_simp))
      (refine j_take2 18 _ ?_ hs rfl (by kernel_rfl) (by kernel_rfl) HJ.out ?_ (fun w' hw' => ?_) ?_; rotate_left; (· go_simp); (· have d := (hw'.cell (p := ⟨ko, 0 + 1, none⟩) z2).trans c3; go_simp; rfl); (go_simp))
      (refine j_take2 21 _ ?_ hs rfl (by kernel_rfl) (by kernel_rfl) HJ.out ?_ (fun w' hw' => ?_) ?_; rotate_left; (· go_simp); (· have d := (hw'.cell (p := ⟨ks, 0, none⟩) z4).trans c5; go_simp; rfl); (go_simp))
      refine j_one 19 _ rfl (by kernel_rfl) HJ.out ?_
      go_wp2_with ((with_reducible refine wpList_floatg (x := ?_) (y := ?_) (X := ?_) (Y := ?_) rfl rfl ?_ ?_ ?_ ?_ ?_ ?_ ?_); (· rfl); (· rfl); (rotate_left 4); (· rfl); (· rfl); (· first | assumption | exact Is.refl _); (· first | assumption | exact Is.refl _); intro v n hv hl)
      have HJ := Lib.hid (show Below w.heap.size w (w2.drewN n) from below_drewN HJ.out _)
      obtain ⟨w4, hw2⟩ : ∃ x, x = w2.drewN n := ⟨_, rfl⟩
      rw [← hw2] at HJ ⊢
      clear hw2
      have L2 := Lib.hid (dF_is (m := s) hv)
      clear hv
      refine ⟨HJ.out, ?_⟩
      refine j_one 20 _ rfl (by kernel_rfl) HJ.out ?_
      go_wp2_with fail
      refine (abs_walk _ _ hl).mono ?_
      rintro e w5 ⟨rfl, rfl⟩
      go_wp2_with fail
      refine ⟨HJ.out, ?_⟩
      have l2 := L2.out
      generalize hb2 : dF p.speed one.speed s = B2 at l2
      have RB : Hid (B = B2) := Lib.hid (by rw [← HB0.out]; unfold nearB; rw [HB1.out, hb2]; rfl)
      clear hb2 L2 hl
      refine j_one 22 _ rfl (by kernel_rfl) HJ.out ?_
      go_wp2_with fail
      refine ⟨HJ.out, ?_⟩
      clear l2
      (refine j_take 23 _ ?_ hs rfl rfl (by kernel_rfl) (by kernel_rfl) HJ.out (fun w' hw' => ?_) ?_; rotate_left; (· skip; go_simp; rfl); (go_simp))
      (refine j_take 24 _ ?_ hs rfl rfl (by kernel_rfl) (by kernel_rfl) HJ.out (fun w' hw' => ?_) ?_; rotate_left; (· skip; go_simp; rfl); (go_simp))
      refine j_done (by kernel_rfl) ?_
      go_wp2_with fail
      go_meet
      exact ⟨by rw [RB.out], HJ.out⟩
  case rest =>
    obtain ⟨rfl, bb⟩ := hcut
    have BB := Lib.hid bb
    have Q2 := Lib.hid (HP.out.keep bb)
    have BC := Lib.hid (bb.mono kz)
    have hzz := bb.size
    have c1 := (bb.cell (p := ⟨kl, 0, none⟩) z1).trans c1
    have p2 := (bb.cell (p := ⟨b, off + i * 5 + 2, none⟩) hb).trans p2
    have z1 := Nat.lt_of_lt_of_le z1 bb.size
    have hb := Nat.lt_of_lt_of_le hb bb.size
    clear bb HP c2 c3 c4 c5 p0 p1 z2 z3 z4
    clear HB0
    cases B with
    | false =>
      go_wp2_with fail
      go_ret
      exact ⟨rfl, ⟨_, Q2.out⟩, BC.out⟩
    | true =>
      obtain ⟨I, Z, hi, hz, hs1, hy, hk⟩ := rs_info f_info
      obtain ⟨ua, uc, rfl, u1, u2⟩ := rs_form Q2.out.own
      go_wp2_with fail
      refine wp_region_J1 9 (fun x => Below C wc x) (by kernel_rfl) rfl (by kernel_rfl) ((Below.refl C wc).drew) (fun w4 hb4 hJ hs => ?_)
      have HJ := Lib.hid hJ
      have Q4 := Lib.hid (Q2.out.keep hb4)
      clear hJ hb4 Q2
      (refine j_take 1 _ ?_ hs rfl rfl (by kernel_rfl) (by kernel_rfl) HJ.out (fun w' hw' => ?_) ?_; rotate_left; (· have d := (hw'.cell (p := ⟨kl, 0, none⟩) k1).trans c1; go_simp; rfl); (go_simp))
      (refine j_take 2 _ ?_ hs rfl rfl (by kernel_rfl) (by kernel_rfl) HJ.out (fun w' hw' => ?_) ?_; rotate_left; (· skip; go_simp; rfl); (go_simp))
      (refine j_take 3 _ ?_ hs rfl rfl (by kernel_rfl) (by kernel_rfl) HJ.out (fun w' hw' => ?_) ?_; rotate_left; (· skip; go_simp; rfl); (go_simp))
      (refine j_take 4 _ ?_ hs rfl rfl (by kernel_rfl) (by kernel_rfl) HJ.out (fun w' hw' => ?_) ?_; rotate_left; (· skip; go_simp; rfl); (go_simp))
      (refine j_take 5 _ ?_ hs rfl rfl (by kernel_rfl) (by kernel_rfl) HJ.out (fun w' hw' => ?_) ?_; rotate_left; (· have d := (hw'.cell (p := ⟨b, off + i * 5 + 2, none⟩) bC).trans p2; go_simp; rfl); (go_simp))
      have zc : C ≤ w4.heap.size := Nat.le_trans (Nat.le_trans kz hzz) HJ.out.size
      have JA := Lib.hid (HJ.out.alloc zc (.cells #[.float .f64 p.power] 22))
      have cq : w4.cell? ⟨kp, 0, none⟩ = some (.slice ua P.length uc) := by have := Q4.out.cp; simp [World.cell?, this]
      have zq := (Array.getElem?_eq_some_iff.1 Q4.out.cp).1
      refine j_two 0 6 _ _ rfl rfl (by kernel_rfl) HJ.out ?_ ?_
      · go_wp2_with fail
        refine ⟨HJ.out, ?_⟩
        refine j_one 6 _ rfl (by kernel_rfl) HJ.out ?_
        clear cq
        go_wp2_with fail
        refine ⟨JA.out, ?_⟩
        refine j_one 7 _ rfl (by kernel_rfl) JA.out ?_
        refine wpList_append_own_at _ rfl (.tmp 34) (.tmp 40) 72 rfl C 22 I Z 1 8 Try.undF hi hz hs1 hy hk (by decide) (.slice ua P.length uc) P.length (flv P) rfl (Q4.out.own.alloc _) ⟨w4.heap.size, 0, none⟩ 1 1 (flv [p.power]) rfl rfl (f_cells (Deep.blk_alloc_new w4 _)) (f_one _) (by simp only [maxLen]; omega) (by omega) (by simp; omega) ?_
        intro v6 w6 ow gr _ hat
        have NX := Lib.hid (Q4.out.grow zc ow gr hat)
        have J6 := Lib.hid (HJ.out.trans NX.out.b6)
        have J7 := Lib.hid (HJ.out.trans NX.out.b7)
        have lt6 := NX.out.lt
        have f6 : w6.frozen? ⟨kp, 0, none⟩ = false := by simp [World.frozen?, NX.out.blk]
        have c6 : w6.cell? ⟨kp, 0, none⟩ = some (.slice ua P.length uc) := by simp [World.cell?, NX.out.blk]
        obtain ⟨a6, n6, rfl, r6, r7⟩ := rs_form ow
        clear ow gr hat
        go_wp2_with fail
        refine ⟨J6.out, ?_⟩
        refine j_one 8 _ rfl (by kernel_rfl) J6.out ?_
        go_wp2_with fail
        refine ⟨J7.out, j_done (by kernel_rfl) ?_⟩
        clear lt6 f6 c6
        go_wp2_with fail
        go_ret
        exact ⟨rfl, ⟨_, NX.out.mp⟩, BC.out.trans J7.out⟩
      · go_wp2_with fail
        first | refine ⟨JA.out, ?_⟩ | refine ⟨rfl, JA.out, ?_⟩
        have cq2 : (w4.alloc (.cells #[.float .f64 p.power] 22)).cell? ⟨kp, 0, none⟩ = some (.slice ua P.length uc) := by have := (Deep.blk_alloc_lt w4 (.cells #[.float .f64 p.power] 22) kp zq).trans Q4.out.cp; simp [World.cell?, this]
        refine j_one 0 _ rfl (by kernel_rfl) JA.out ?_
        go_wp2_with fail
        refine ⟨JA.out, ?_⟩
        clear cq cq2
        refine j_one 7 _ rfl (by kernel_rfl) JA.out ?_
        refine wpList_append_own_at _ rfl (.tmp 34) (.tmp 40) 72 rfl C 22 I Z 1 8 Try.undF hi hz hs1 hy hk (by decide) (.slice ua P.length uc) P.length (flv P) rfl (Q4.out.own.alloc _) ⟨w4.heap.size, 0, none⟩ 1 1 (flv [p.power]) rfl rfl (f_cells (Deep.blk_alloc_new w4 _)) (f_one _) (by simp only [maxLen]; omega) (by omega) (by simp; omega) ?_
        intro v6 w6 ow gr _ hat
        have NX := Lib.hid (Q4.out.grow zc ow gr hat)
        have J6 := Lib.hid (HJ.out.trans NX.out.b6)
        have J7 := Lib.hid (HJ.out.trans NX.out.b7)
        have lt6 := NX.out.lt
        have f6 : w6.frozen? ⟨kp, 0, none⟩ = false := by simp [World.frozen?, NX.out.blk]
        have c6 : w6.cell? ⟨kp, 0, none⟩ = some (.slice ua P.length uc) := by simp [World.cell?, NX.out.blk]
        obtain ⟨a6, n6, rfl, r6, r7⟩ := rs_form ow
        clear ow gr hat
        go_wp2_with fail
        refine ⟨J6.out, ?_⟩
        refine j_one 8 _ rfl (by kernel_rfl) J6.out ?_
        go_wp2_with fail
        refine ⟨J7.out, j_done (by kernel_rfl) ?_⟩
        clear lt6 f6 c6
        go_wp2_with fail
        go_ret
        exact ⟨rfl, ⟨_, NX.out.mp⟩, BC.out.trans J7.out⟩
end Go.Proofs.Ytdngkeefbpffcaa
