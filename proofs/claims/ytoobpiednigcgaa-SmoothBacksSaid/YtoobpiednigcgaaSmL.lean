import Derived.Test.YtoobpiednigcgaaSmR
import Derived.Test.YtoobpiednigcgaaFlI
set_option autoImplicit false
set_option linter.unusedVariables false
namespace Go.Proofs.Ytoobpiednigcgaa
open Go.RowKit Lk
theorem calls_forget {P : Program} {f : FuncId} {args : Array Value} {Q : Ending → World → Prop} {w : World} (F : World → Prop) (h : F w) (k : ∀ w1, F w1 → Calls P f args w1 Q) : Calls P f args w Q := k w h
theorem wp_forget {P : Program} {c : Code} {Q : Exit → Act → World → Prop} {a : Act} {w : World} (F : World → Prop) (h : F w) (k : ∀ w1, F w1 → Code.wp P c Q a w1) : Code.wp P c Q a w := k w h
@[go_sem] theorem alloc_drewN_lk (w : World) (n : Nat) (o : Obj) : (w.drewN n).alloc o = (w.alloc o).drewN n := rfl
theorem Bx.drewN {w : World} {b : Nat} {v : Value} (h : Bx w b v) (n : Nat) : Bx (w.drewN n) b v := ⟨h.cell, h.lt⟩
theorem sqL_at {t : List Nat} {k y : Nat} (h : (sqL t)[k]? = some y) : ∃ z, t[k]? = some z ∧ y = fmul (fsub z (mean t)) (fsub z (mean t)) := by
  unfold sqL at h
  rw [List.getElem?_map, Option.map_eq_some_iff] at h
  obtain ⟨z, h1, h2⟩ := h
  exact ⟨z, h1, h2.symm⟩
theorem prL_at {t x : List Nat} {k y : Nat} (h : (prL t x)[k]? = some y) : ∃ z z', t[k]? = some z ∧ x[k]? = some z' ∧ y = fmul (fsub z (mean t)) (fsub z' (mean x)) := by
  unfold prL at h
  rw [List.getElem?_map, Option.map_eq_some_iff] at h
  obtain ⟨⟨z, z'⟩, h1, h2⟩ := h
  rw [List.getElem?_zip_eq_some] at h1
  exact ⟨z, z', h1.1, h1.2, h2.symm⟩
theorem fine2_walk (p q P Q : Nat) (b : Bool) (k : Nat) (w : World) (hp : Is p P) (hq : Is q Q) (lp : p < 2 ^ 64) (lq : q < 2 ^ 64) (hb : (decide (Lk.Fin P) && decide (Lk.Fin Q)) = b) :
    Calls Try.prog 29 #[.slice (some ⟨w.heap.size, 0, none⟩) 2 2] ((w.alloc (.cells #[.float .f64 p, .float .f64 q] 24)).drewN k) (fun e w' => e = .returned (.bool b) ∧ Below w.heap.size w w') := by
  have F : Fs ((w.alloc (.cells #[.float .f64 p, .float .f64 q] 24)).drewN k) (some ⟨w.heap.size, 0, none⟩) 2 2 [p, q] := ⟨rfl, by omega, by omega, (fun x hx => by rcases List.mem_cons.1 hx with rfl | hx; exact lp; rcases List.mem_cons.1 hx with rfl | hx; exact lq; cases hx), .inr ⟨_, 0, rfl, by simp [World.drewN], fun j hj => by
    show (w.alloc (.cells #[.float .f64 p, .float .f64 q] 24)).cell? ⟨w.heap.size, 0 + j, none⟩ = _
    rw [cell_of_heap (Deep.blk_alloc_new _ _) (0 + j)]
    match j, hj with
    | 0, _ => rfl
    | 1, _ => rfl⟩, fun h => by cases h⟩
  refine (fine_walk _ _ _ _ _ F).mono ?_
  rintro e w' ⟨rfl, h⟩
  refine ⟨ret_bool ?_, (below_drewN ((Below.refl _ w).alloc (Nat.le_refl _) _) _).trans (h.mono (by simp [World.drewN]))⟩
  rw [← hb]
  simp [finL, is_fin hp, is_fin hq]
def lineR (t x : List Nat) : Nat × Nat × Int := if lineE t x = 0 then (lineA t x, lineS t x, 0) else (0, 0, lineE t x)
theorem hmf : ∀ (fn : Fn) (first cap : Array Value) (w : World), (Instr.makeFunc fn first cap).run Try.prog w = .ok (.func fn first cap) w := fun _ _ _ _ => rfl
theorem Bx.old {w : World} {b : Nat} {v : Value} (h : Bx w b v) (o : Obj) : Bx (w.alloc o) b v := h.keep ((Below.refl _ w).alloc (Nat.le_refl _) o)
theorem Bx.new' (w : World) (v : Value) (t : TypeId) {k : Nat} (hk : k = w.heap.size) : Bx (w.alloc (.cells #[v] t)) k v := by subst hk; exact Bx.new w v t
/-- what Line knows: its two boxed arguments -/
structure LP (w : World) (a a' : Option Addr) (n m c c' : Nat) (t x : List Nat) (w1 : World) : Prop where
  b1 : Bx w1 w.heap.size (.slice a n c)
  b2 : Bx w1 (w.heap.size + 1) (.slice a' m c')
  s0 : Fs w a n c t
  s0' : Fs w a' m c' x
  hb : Below w.heap.size w w1
theorem LP.s {w w1 : World} {a a' : Option Addr} {n m c c' : Nat} {t x : List Nat} (h : LP w a a' n m c c' t x w1) : Fs w1 a n c t := h.s0.keep h.hb
theorem LP.s' {w w1 : World} {a a' : Option Addr} {n m c c' : Nat} {t x : List Nat} (h : LP w a a' n m c c' t x w1) : Fs w1 a' m c' x := h.s0'.keep h.hb
theorem LP.keep {w w1 w2 : World} {a a' : Option Addr} {n m c c' : Nat} {t x : List Nat} (h : LP w a a' n m c c' t x w1) (b : Below w1.heap.size w1 w2) : LP w a a' n m c c' t x w2 :=
  ⟨h.b1.keep b, h.b2.keep b, h.s0, h.s0', h.hb.trans (b.mono h.hb.size)⟩
theorem LP.start {w : World} {a a' : Option Addr} {n m c c' : Nat} {t x : List Nat} (s : Fs w a n c t) (s' : Fs w a' m c' x) : LP w a a' n m c c' t x ((w.alloc (.cells #[.slice a n c] 23)).alloc (.cells #[.slice a' m c'] 23)) := by
  have b : Below w.heap.size w ((w.alloc (.cells #[.slice a n c] 23)).alloc (.cells #[.slice a' m c'] 23)) := by (repeat' (first | exact Below.refl _ _ | refine below_drewN ?_ _ | refine Below.setCell ?_ (by first | exact Nat.le_refl _ | (simp; done) | (simp; omega)) _ | refine Below.alloc ?_ (by first | exact Nat.le_refl _ | (simp; done) | (simp; omega)) _))
  exact ⟨(Bx.new w _ _).old _, Bx.new' _ _ _ (by simp), s, s', b⟩
theorem Bx.grown {w w' : World} {b B n e sz : Nat} {v u : Value} {xs : List Value} (h : Bx w b u) (ho : w.ownsRow B e sz v n xs) (g : w.grownBy w' v.ownBlock) (hb : b < B) : Bx w' b u :=
  ⟨g.cell h.cell (fun e => by have := (ho.lt b e.symm).1; omega), Nat.lt_of_lt_of_le h.lt g.size⟩
theorem LP.grown {w w1 w2 : World} {a a' : Option Addr} {n m c c' : Nat} {t x : List Nat} (h : LP w a a' n m c c' t x w1) {N e sz : Nat} {v : Value} {xs : List Value} (ho : w1.ownsRow (w.heap.size + 2) e sz v N xs) (g : w1.grownBy w2 v.ownBlock) : LP w a a' n m c c' t x w2 :=
  ⟨h.b1.grown ho g (by omega), h.b2.grown ho g (by omega), h.s0, h.s0', h.hb.trans ⟨g.os, g.tape, g.output, g.size, fun k hk => g.block k (by have := h.hb.size; omega) (fun e => by have := (ho.lt k e.symm).1; omega)⟩⟩
theorem ret_line {u v : Nat} {k : Int} {r : Nat × Nat × Int} (h : r = (u, v, k)) : Ending.returned (.tuple #[.float .f64 u, .float .f64 v, .int .i64 k]) = .returned (.tuple #[.float .f64 r.1, .float .f64 r.2.1, .int .i64 r.2.2]) := by rw [h]
set_option maxHeartbeats 4000000 in
theorem line_walk (a a' : Option Addr) (N M c c' : Nat) (t x : List Nat) (w : World) (s : Fs w a N c t) (s' : Fs w a' M c' x) :
    Calls Try.prog 15 #[.slice a N c, .slice a' M c'] w (fun e w' => e = .returned (.tuple #[.float .f64 (lineR t x).1, .float .f64 (lineR t x).2.1, .int .i64 (lineR t x).2.2]) ∧ Below w.heap.size w w') := by
  have n63 : N ≤ 9223372036854775807 := Nat.le_trans s.le s.small
  have m63 : M ≤ 9223372036854775807 := Nat.le_trans s'.le s'.small
  have P0 := Lib.hid (LP.start s s')
  have lt := s.len
  have lx := s'.len
  have LT := Lib.hid lt
  have LX := Lib.hid lx
  have hmf := hmf
  obtain ⟨se, hse⟩ : ∃ se : Int, (if N ≠ M then 5 else if 1024 < N then 3 else 0) = se := ⟨_, rfl⟩
  have R0 : lineE t x = if se ≠ 0 then se else if N < 2 then 2 else if !(finL t && finL x) then 6
    else if ceq (addL (sqL t)) 0 then 6 else if !(decide (Lk.Fin (lineS t x)) && decide (Lk.Fin (lineA t x))) then 6 else 0 := by
    unfold lineE
    rw [← hse, lt, lx]
    by_cases h1 : N = M <;> by_cases h2 : 1024 < N <;> simp [h1] <;> simp_all
  have hnm : se = 0 → N = M ∧ N ≤ 1024 := by
    intro h0
    by_cases h1 : N = M
    · by_cases h2 : 1024 < N
      · rw [if_neg (by omega), if_pos h2] at hse; omega
      · exact ⟨h1, by omega⟩
    · rw [if_pos h1] at hse; omega
  have SD := Lib.hid (sides_walk N M c c' a a')
  rw [hse] at SD
  clear hse lt lx s s'
  by_cases h1 : se = 0
  · obtain ⟨rfl, n1024⟩ := hnm h1
    subst h1
    clear hnm
    rw [if_neg (by decide)] at R0
    by_cases h2 : N < 2
    · have E : Hid (lineR t x = (0, 0, 2)) := Lib.hid (by rw [if_pos h2] at R0; unfold lineR; rw [R0, if_neg (by decide)])
      clear R0
      go_enter Try.func15, Try.ntmps15
      go_wp2_with fail
      refine calls_forget (LP w a a' N N c c' t x) P0.out ?_
      intro w1 h
      have P1 := Lib.hid h
      clear P0
      have c1 := h.b1.cell
      have c2 := h.b2.cell
      clear h
      refine (SD.out w1 n63 m63).mono ?_; rintro e w' ⟨rfl, rfl⟩
      go_wp2_with fail
      go_ret3
      exact ⟨ret_line E.out, P1.out.hb⟩
    · rw [if_neg h2] at R0
      have cf : ∀ (f : FuncId), f = 40 ∨ f = 41 ∨ f = 42 ∨ f = 43 → ∀ (args : Array Value) (w : World), (callFunc f args).run Try.prog w = .ok (.enter f args) w := by
        rintro f (rfl | rfl | rfl | rfl) <;> exact fun _ _ => rfl
      have CF := Lib.hid cf
      clear cf
      cases h3 : finL t with
      | false =>
        have E : Hid (lineR t x = (0, 0, 6)) := Lib.hid (by rw [h3] at R0; unfold lineR; rw [R0]; rfl)
        have F1 : Hid (∀ w, Fs w a N c t → Calls Try.prog 29 #[.slice a N c] w (fun e w' => e = .returned (.bool false) ∧ Below w.heap.size w w')) := Lib.hid (fun w s => by have := fine_walk a N c t w s; rwa [h3] at this)
        clear R0 h3
        go_enter Try.func15, Try.ntmps15
        go_wp2_with fail
        refine calls_forget (LP w a a' N N c c' t x) P0.out ?_
        intro w1 h
        have P1 := Lib.hid h
        clear P0
        have c1 := h.b1.cell
        have c2 := h.b2.cell
        clear h
        refine (SD.out w1 n63 m63).mono ?_; rintro e w' ⟨rfl, rfl⟩
        go_wp2_with fail
        refine (F1.out w1 P1.out.s).mono ?_; rintro e w2 ⟨rfl, b2⟩
        have P2 := Lib.hid (P1.out.keep b2)
        clear b2 c1 c2
        go_wp2_with fail
        go_ret3
        exact ⟨ret_line E.out, P2.out.hb⟩
      | true =>
        have F1 : Hid (∀ w, Fs w a N c t → Calls Try.prog 29 #[.slice a N c] w (fun e w' => e = .returned (.bool true) ∧ Below w.heap.size w w')) := Lib.hid (fun w s => by have := fine_walk a N c t w s; rwa [h3] at this)
        cases h4 : finL x with
        | false =>
          have E : Hid (lineR t x = (0, 0, 6)) := Lib.hid (by rw [h3, h4] at R0; unfold lineR; rw [R0]; rfl)
          have F2 : Hid (∀ w, Fs w a' N c' x → Calls Try.prog 29 #[.slice a' N c'] w (fun e w' => e = .returned (.bool false) ∧ Below w.heap.size w w')) := Lib.hid (fun w s => by have := fine_walk a' N c' x w s; rwa [h4] at this)
          clear R0 h3 h4
          go_enter Try.func15, Try.ntmps15
          go_wp2_with fail
          refine calls_forget (LP w a a' N N c c' t x) P0.out ?_
          intro w1 h
          have P1 := Lib.hid h
          clear P0
          have c1 := h.b1.cell
          have c2 := h.b2.cell
          clear h
          refine (SD.out w1 n63 m63).mono ?_; rintro e w' ⟨rfl, rfl⟩
          go_wp2_with fail
          refine (F1.out w1 P1.out.s).mono ?_; rintro e w2 ⟨rfl, b2⟩
          have P2 := Lib.hid (P1.out.keep b2)
          clear b2 c1 c2
          have c2 := P2.out.b2.cell
          go_wp2_with fail
          refine (F2.out w2 P2.out.s').mono ?_; rintro e w3 ⟨rfl, b3⟩
          have P3 := Lib.hid (P2.out.keep b3)
          clear b3 c2
          go_wp2_with fail
          go_ret3
          exact ⟨ret_line E.out, P3.out.hb⟩
        | true =>
          have F2 : Hid (∀ w, Fs w a' N c' x → Calls Try.prog 29 #[.slice a' N c'] w (fun e w' => e = .returned (.bool true) ∧ Below w.heap.size w w')) := Lib.hid (fun w s => by have := fine_walk a' N c' x w s; rwa [h4] at this)
          rw [h3, h4] at R0
          have R := Lib.hid R0
          clear R0 h3 h4
          go_enter Try.func15, Try.ntmps15
          go_wp2_with fail
          refine calls_forget (LP w a a' N N c c' t x) P0.out ?_
          intro w1 h
          have P1 := Lib.hid h
          clear P0
          have c1 := h.b1.cell
          have c2 := h.b2.cell
          clear h
          refine (SD.out w1 n63 m63).mono ?_; rintro e w' ⟨rfl, rfl⟩
          go_wp2_with fail
          refine (F1.out w1 P1.out.s).mono ?_; rintro e w2 ⟨rfl, b2⟩
          have P2 := Lib.hid (P1.out.keep b2)
          clear b2 c1 c2
          have c2 := P2.out.b2.cell
          go_wp2_with fail
          refine (F2.out w2 P2.out.s').mono ?_; rintro e w3 ⟨rfl, b3⟩
          have P3 := Lib.hid (P2.out.keep b3)
          clear b3 c2 F1 F2 SD P1 P2
          go_wp2_with fail
          refine (sum_walk 40 #[.pointer (some ⟨w.heap.size, 0, none⟩)] N t w3 (by omega) (by omega) LT.out (CF.out 40 (.inl rfl)) (fun k y w' hy hb => line1_walk k w.heap.size N c y a t w' (P3.out.b1.keep hb) (P3.out.s.keep hb) hy)).mono ?_
          rintro e w4 ⟨v1, rfl, hv1, b4⟩
          have P4 := Lib.hid (P3.out.keep b4)
          clear b4 P3
          go_wp2_with (((with_reducible refine wpList_float (x := ?_) (y := ?_) (X := ?_) (Y := ?_) rfl rfl ?_ ?_ ?_ ?_ ?_ ?_); (· rfl); (rotate_left 4); (· rfl); (· rfl); (· first | assumption | exact Is.refl _); (· first | assumption | exact Is.refl _); intro v n hv hl); revert v n hv hl; intro m1 k1 hm1 lm1)
          refine calls_forget (fun w5 => LP w a a' N N c c' t x w5 ∧ Bx w5 w4.heap.size (.float .f64 m1)) ⟨P4.out.keep (by (repeat' (first | exact Below.refl _ _ | refine below_drewN ?_ _ | refine Below.setCell ?_ (by first | exact Nat.le_refl _ | (simp; done) | (simp; omega)) _ | refine Below.alloc ?_ (by first | exact Nat.le_refl _ | (simp; done) | (simp; omega)) _))), Bx.drewN (Bx.new w4 _ _) _⟩ ?_
          rintro w5 ⟨p5, k5⟩
          have P5 := Lib.hid p5
          have K5 := Lib.hid k5
          have M1 := Lib.hid (show Is m1 (mean t) by unfold mean; rw [LT.out]; exact hm1)
          clear p5 k5 hm1 hv1 P4
          refine (sum_walk 41 #[.pointer (some ⟨w.heap.size + 1, 0, none⟩)] N x w5 (by omega) (by omega) LX.out (CF.out 41 (.inr (.inl rfl))) (fun k y w' hy hb => line2_walk k (w.heap.size + 1) N c' y a' x w' (P5.out.b2.keep hb) (P5.out.s'.keep hb) hy)).mono ?_
          rintro e w6 ⟨v2, rfl, hv2, b6⟩
          have P6 := Lib.hid (P5.out.keep b6)
          have K6 := Lib.hid (K5.out.keep b6)
          clear b6 P5 K5
          go_wp2_with (((with_reducible refine wpList_float (x := ?_) (y := ?_) (X := ?_) (Y := ?_) rfl rfl ?_ ?_ ?_ ?_ ?_ ?_); (· rfl); (rotate_left 4); (· rfl); (· rfl); (· first | assumption | exact Is.refl _); (· first | assumption | exact Is.refl _); intro v n hv hl); revert v n hv hl; intro m2 k2 hm2 lm2)
          refine calls_forget (fun w7 => LP w a a' N N c c' t x w7 ∧ Bx w7 w4.heap.size (.float .f64 m1) ∧ Bx w7 w6.heap.size (.float .f64 m2)) ⟨P6.out.keep (by (repeat' (first | exact Below.refl _ _ | refine below_drewN ?_ _ | refine Below.setCell ?_ (by first | exact Nat.le_refl _ | (simp; done) | (simp; omega)) _ | refine Below.alloc ?_ (by first | exact Nat.le_refl _ | (simp; done) | (simp; omega)) _))), K6.out.keep (by (repeat' (first | exact Below.refl _ _ | refine below_drewN ?_ _ | refine Below.setCell ?_ (by first | exact Nat.le_refl _ | (simp; done) | (simp; omega)) _ | refine Below.alloc ?_ (by first | exact Nat.le_refl _ | (simp; done) | (simp; omega)) _))), Bx.drewN (Bx.new w6 _ _) _⟩ ?_
          rintro w7 ⟨p7, k7, j7⟩
          have P7 := Lib.hid p7
          have K7 := Lib.hid k7
          have J7 := Lib.hid j7
          have M2 := Lib.hid (show Is m2 (mean x) by unfold mean; rw [LX.out]; exact hm2)
          clear p7 k7 j7 hm2 hv2 P6 K6
          refine (sum_walk 42 #[.pointer (some ⟨w.heap.size, 0, none⟩), .pointer (some ⟨w4.heap.size, 0, none⟩)] N (sqL t) w7 (by omega) (by omega) (by rw [sqL, List.length_map]; exact LT.out) (CF.out 42 (.inr (.inr (.inl rfl)))) (fun k y w' hy hb => by
            obtain ⟨z, hz, rfl⟩ := sqL_at hy
            exact line3_walk k w.heap.size w4.heap.size N c z m1 (mean t) a t w' (P7.out.b1.keep hb) (P7.out.s.keep hb) hz (K7.out.keep hb) M1.out)).mono ?_
          rintro e w8 ⟨v3, rfl, hv3, b8⟩
          have P8 := Lib.hid (P7.out.keep b8)
          have K8 := Lib.hid (K7.out.keep b8)
          have J8 := Lib.hid (J7.out.keep b8)
          have V3 := Lib.hid hv3
          clear b8 P7 K7 J7 hv3
          go_wp2_with fail
          refine (sum_walk 43 #[.pointer (some ⟨w.heap.size, 0, none⟩), .pointer (some ⟨w4.heap.size, 0, none⟩), .pointer (some ⟨w.heap.size + 1, 0, none⟩), .pointer (some ⟨w6.heap.size, 0, none⟩)] N (prL t x) w8 (by omega) (by omega) (by rw [prL, List.length_map, List.length_zip, LT.out, LX.out, Nat.min_self]) (CF.out 43 (.inr (.inr (.inr rfl)))) (fun k y w' hy hb => by
            obtain ⟨z, z', hz, hz', rfl⟩ := prL_at hy
            exact line4_walk k w.heap.size w4.heap.size (w.heap.size + 1) w6.heap.size N c c' z z' m1 (mean t) m2 (mean x) a a' t x w' (P8.out.b1.keep hb) (P8.out.s.keep hb) hz (K8.out.keep hb) M1.out (P8.out.b2.keep hb) (P8.out.s'.keep hb) hz' (J8.out.keep hb) M2.out)).mono ?_
          rintro e w9 ⟨v4, rfl, hv4, b9⟩
          have P9 := Lib.hid (P8.out.keep b9)
          have e1 := (K8.out.keep b9).cell
          have e2 := (J8.out.keep b9).cell
          have V4 := Lib.hid hv4
          clear b9 P8 K8 J8 hv4
          have i1 := M1.out
          have i2 := M2.out
          have i3 := V3.out
          have i4 := V4.out
          cases h6 : ceq (addL (sqL t)) 0 with
          | true =>
            have E : Hid (lineR t x = (0, 0, 6)) := Lib.hid (by have r := R.out; rw [h6] at r; unfold lineR; rw [r]; rfl)
            have q : (FloatKind.f64.format.order v3 0 == some Ordering.eq) = true := (ceq_is V3.out (Is.refl 0)).trans h6
            clear h6
            go_wp2_with fail
            go_ret3
            exact ⟨ret_line E.out, P9.out.hb⟩
          | false =>
            have R' := Lib.hid (show lineE t x = if !(decide (Lk.Fin (lineS t x)) && decide (Lk.Fin (lineA t x))) then 6 else 0 by have r := R.out; rw [h6] at r; exact r)
            have q : (FloatKind.f64.format.order v3 0 == some Ordering.eq) = false := (ceq_is V3.out (Is.refl 0)).trans h6
            clear h6 R
            cases h7 : (decide (Lk.Fin (lineA t x)) && decide (Lk.Fin (lineS t x))) with
            | true =>
              have B := Lib.hid h7
              clear h7
              go_wp2_with ((with_reducible refine wpList_float (x := ?_) (y := ?_) (X := ?_) (Y := ?_) rfl rfl ?_ ?_ ?_ ?_ ?_ ?_); (· rfl); (rotate_left 4); (· rfl); (· rfl); (· first | assumption | exact Is.refl _); (· first | assumption | exact Is.refl _); intro v n hv hl)
              have ha : Is v (lineA t x) := hv
              have hs : Is _ (lineS t x) := ‹Is _ (fop BinOp.quo (addL (prL t x)) (addL (sqL t)))›
              have z := Bool.and_eq_true_iff.1 B.out
              have EA := Lib.hid (ha.eq (of_decide_eq_true z.1).not_nan)
              have ES := Lib.hid (hs.eq (of_decide_eq_true z.2).not_nan)
              refine (fine2_walk _ _ (lineA t x) (lineS t x) true _ w9 ha hs hl (by assumption) B.out).mono ?_
              rintro e w10 ⟨rfl, b10⟩
              have E : Hid (lineR t x = (lineA t x, lineS t x, 0)) := Lib.hid (by have r := R'.out; rw [z.1, z.2] at r; unfold lineR; rw [r]; rfl)
              clear z ha hs i1 i2 i3 i4 e1 e2
              go_wp2_with fail
              go_ret3
              exact ⟨ret_line (by rw [E.out, ← EA.out, ← ES.out]), P9.out.hb.trans (b10.mono P9.out.hb.size)⟩
            | false =>
              have B := Lib.hid h7
              clear h7
              have E : Hid (lineR t x = (0, 0, 6)) := Lib.hid (by have r := R'.out; rw [Bool.and_comm, B.out] at r; unfold lineR; rw [r]; rfl)
              go_wp2_with ((with_reducible refine wpList_float (x := ?_) (y := ?_) (X := ?_) (Y := ?_) rfl rfl ?_ ?_ ?_ ?_ ?_ ?_); (· rfl); (rotate_left 4); (· rfl); (· rfl); (· first | assumption | exact Is.refl _); (· first | assumption | exact Is.refl _); intro v n hv hl)
              have ha : Is v (lineA t x) := hv
              have hs : Is _ (lineS t x) := ‹Is _ (fop BinOp.quo (addL (prL t x)) (addL (sqL t)))›
              refine (fine2_walk _ _ (lineA t x) (lineS t x) false _ w9 ha hs hl (by assumption) B.out).mono ?_
              rintro e w10 ⟨rfl, b10⟩
              clear ha hs i1 i2 i3 i4 e1 e2
              go_wp2_with fail
              go_ret3
              exact ⟨ret_line E.out, P9.out.hb.trans (b10.mono P9.out.hb.size)⟩
  · have E : Hid (lineR t x = (0, 0, se)) := Lib.hid (by rw [if_pos h1] at R0; unfold lineR; rw [R0, if_neg h1])
    clear R0 hnm
    go_enter Try.func15, Try.ntmps15
    go_wp2_with fail
    refine calls_forget (LP w a a' N M c c' t x) P0.out ?_
    intro w1 h
    have P1 := Lib.hid h
    clear P0
    have c1 := h.b1.cell
    have c2 := h.b2.cell
    clear h
    refine (SD.out w1 n63 m63).mono ?_; rintro e w' ⟨rfl, rfl⟩
    go_wp2_with fail
    go_ret3
    exact ⟨ret_line E.out, P1.out.hb⟩
end Go.Proofs.Ytoobpiednigcgaa
