import Derived.Test.YtdngkeefbpffcaaPlN
import Derived.Lib.SliceRun
set_option autoImplicit false
set_option linter.unusedVariables false
namespace Go.Proofs.Ytdngkeefbpffcaa
open Go.RowKit Lk Pl
/-- below C nothing turned but block g -/
structure Gf (C g : Nat) (w w' : World) : Prop where
  os : w'.os = w.os
  tape : w'.tape = w.tape
  output : w'.output = w.output
  size : w.heap.size ≤ w'.heap.size
  block : ∀ k, k < C → k ≠ g → w'.heap[k]? = w.heap[k]?
theorem Gf.of {C g : Nat} {w w' : World} (b : Below C w w') : Gf C g w w' := ⟨b.os, b.tape, b.output, b.size, fun k h _ => b.block k h⟩
theorem Gf.trans {C g : Nat} {w w' w2 : World} (a : Gf C g w w') (b : Gf C g w' w2) : Gf C g w w2 := ⟨b.os.trans a.os, b.tape.trans a.tape, b.output.trans a.output, Nat.le_trans a.size b.size, fun k h n => (b.block k h n).trans (a.block k h n)⟩
theorem Gf.set {C g : Nat} {w : World} (o : Nat) (x : Value) : Gf C g w (w.setCell ⟨g, o, none⟩ x) := ⟨rfl, rfl, rfl, by simp [World.setCell], fun k _ n => Deep.blk_setCell_other _ _ _ _ n⟩
theorem Gf.sets {C g : Nat} : ∀ (xs : List Value) (o : Nat) (w : World), Gf C g w (w.setCells g o xs)
  | [], o, w => Gf.of (Below.refl _ _)
  | x :: xs, o, w => (Gf.set o x).trans (Gf.sets xs (o + 1) _)
theorem Gf.at {C g k : Nat} {w w' : World} (f : Gf C g w w') (hk : k < C) (hn : k ≠ g) (o : Nat) : w'.cell? ⟨k, o, none⟩ = w.cell? ⟨k, o, none⟩ := World.cell?_of_block (a := ⟨k, o, none⟩) (f.block k hk hn)
/-- g is none of the blocks that the closure reads -/
structure Mn (g kl ko km ks : Nat) (a : Option Addr) : Prop where
  n1 : kl ≠ g
  n2 : ko ≠ g
  n3 : km ≠ g
  n4 : ks ≠ g
  na : ∀ q, a = some q → q.block ≠ g
theorem Mc.gf {C g : Nat} {w w' : World} {kl ko km ks : Nat} {a : Option Addr} {n cap : Nat} {l : List Pt} {one : Pt} {m s : Nat} (h : Mc C w kl ko km ks a n cap l one m s) (e : Mn g kl ko km ks a) (f : Gf C g w w') : Mc C w' kl ko km ks a n cap l one m s := by
  have at_ : ∀ {b o : Nat} {p : Pt}, b < C → b ≠ g → AtP w b o p → AtP w' b o p := fun hb hn A => ⟨(f.at hb hn _).trans A.c0, (f.at hb hn _).trans A.c1, (f.at hb hn _).trans A.c2, (f.at hb hn _).trans A.c3, (f.at hb hn _).trans A.c4⟩
  refine ⟨(f.at h.k1 e.n1 _).trans h.cl, at_ h.k2 e.n2 h.on, (f.at h.k3 e.n3 _).trans h.cm, (f.at h.k4 e.n4 _).trans h.cs, ?_, h.lo, h.k1, h.k2, h.k3, h.k4, Nat.le_trans h.kz f.size, h.sb⟩
  exact ⟨h.sp.len, h.sp.le, h.sp.small, h.sp.lt, h.sp.cells.imp id fun ⟨b, off, ha, hg, hc⟩ => ⟨b, off, ha, Nat.lt_of_lt_of_le hg f.size, fun j hj => at_ (h.sb _ ha) (e.na _ ha) (hc j hj)⟩, h.sp.nil⟩
theorem Mp.blk {C : Nat} {w w' : World} {kp : Nat} {v : Value} {P : List Nat} (h : Mp C w kp v P) (e : ∀ k, C ≤ k → k < w.heap.size → w'.heap[k]? = w.heap[k]?) : Mp C w' kp v P :=
  ⟨(e _ h.hk (Array.getElem?_eq_some_iff.1 h.cp).1).trans h.cp, h.hk, rs_own h.own fun g hg => e g (h.own.lt g hg).1 (h.own.lt g hg).2, h.ne⟩
theorem sets_other {g k : Nat} (hk : k ≠ g) : ∀ (xs : List Value) (o : Nat) (w : World), (w.setCells g o xs).heap[k]? = w.heap[k]?
  | [], o, w => rfl
  | x :: xs, o, w => (sets_other hk xs (o + 1) _).trans (Deep.blk_setCell_other _ _ _ _ hk)
theorem Di.zeros {g : Nat} : ∀ (n o : Nat) (E : List Nat) (w : World), Di w g E → ∃ E', Di (w.setCells g o (List.replicate n (.int .i64 0))) g E' ∧ E'.length = E.length ∧ ∀ t, t < o → E'[t]? = E[t]?
  | 0, o, E, w, h => ⟨E, h, rfl, fun _ _ => rfl⟩
  | n + 1, o, E, w, h => by
    obtain ⟨E', h1, h2, h3⟩ := Di.zeros n (o + 1) (E.set o 0) (w.setCell ⟨g, o, none⟩ (.int .i64 0)) (h.set o 0)
    exact ⟨E', h1, by rw [h2, List.length_set], fun t ht => by rw [h3 t (by omega), List.getElem?_set_ne (by omega)]⟩
theorem zero3 (w : World) : (zeroValue 3).run Try.prog w = .ok (.int .i64 0) w := by kernel_rfl
def nrs (l : List Pt) (one : Pt) (m s : Nat) (R : List Nat) : List Nat := R.filter fun x => nr l one m s x
def nks (l : List Pt) (one : Pt) (m s : Nat) (R : List Nat) : List Nat := R.filter fun x => !nr l one m s x
/-- what DeleteFunc leaves -/
structure Dx (C : Nat) (w w' : World) (kp g off co : Nat) (l : List Pt) (one : Pt) (m s : Nat) (P D R : List Nat) : Prop where
  f : Gf C g w w'
  d : ∃ E, Di w' g E ∧ E.length = D.length ∧ ∀ k x : Nat, (nks l one m s R)[k]? = some x → E[off + k]? = some x
  p : ∃ u, Mp C w' kp u (P ++ (nrs l one m s R).map (pw l))
/-- .. and on its way -/
structure Dy (C : Nat) (w w' : World) (kp g off : Nat) (l : List Pt) (one : Pt) (m s : Nat) (P D R : List Nat) (i j : Nat) : Prop where
  f : Gf C g w w'
  d : ∃ E, Di w' g E ∧ E.length = D.length ∧ (∀ k x : Nat, (nks l one m s (R.take j))[k]? = some x → E[off + k]? = some x) ∧ ∀ k x : Nat, j ≤ k → R[k]? = some x → E[off + k]? = some x
  p : ∃ u, Mp C w' kp u (P ++ (nrs l one m s (R.take j)).map (pw l))
  hi : i = (nks l one m s (R.take j)).length
  hij : i < j
theorem take_succ {R : List Nat} {j x : Nat} (h : R[j]? = some x) : R.take (j + 1) = R.take j ++ [x] := by rw [List.take_add_one, h]; rfl
theorem nks_le (l : List Pt) (one : Pt) (m s : Nat) (R : List Nat) : (nks l one m s R).length ≤ R.length := List.length_filter_le _ _
theorem nrs_le (l : List Pt) (one : Pt) (m s : Nat) (R : List Nat) : (nrs l one m s R).length ≤ R.length := List.length_filter_le _ _
theorem Dy.yes {C : Nat} {w w' w2 : World} {kp g off : Nat} {l : List Pt} {one : Pt} {m s : Nat} {P D R : List Nat} {i j x : Nat} (h : Dy C w w' kp g off l one m s P D R i j) (hx : R[j]? = some x) (gC : g < C) (hn : nr l one m s x = true) (b : Below C w' w2) (hp : ∃ u, Mp C w2 kp u (P ++ (nrs l one m s (R.take j)).map (pw l) ++ [pw l x])) : Dy C w w2 kp g off l one m s P D R i (j + 1) := by
  have e1 : nks l one m s (R.take (j + 1)) = nks l one m s (R.take j) := by rw [take_succ hx]; unfold nks; rw [List.filter_append]; simp [hn]
  have e2 : nrs l one m s (R.take (j + 1)) = nrs l one m s (R.take j) ++ [x] := by rw [take_succ hx]; unfold nrs; rw [List.filter_append]; simp [hn]
  obtain ⟨E, d1, d2, d3, d4⟩ := h.d
  refine ⟨h.f.trans (Gf.of b), ⟨E, (b.block _ gC).trans d1, d2, by rw [e1]; exact d3, fun k y hk => d4 k y (by omega)⟩, ?_, by rw [e1]; exact h.hi, by have := h.hij; omega⟩
  rw [e2, List.map_append, ← List.append_assoc]; exact hp
theorem Dy.no {C : Nat} {w w' w2 : World} {kp g off : Nat} {l : List Pt} {one : Pt} {m s : Nat} {P D R : List Nat} {i j x : Nat} (h : Dy C w w' kp g off l one m s P D R i j) (hx : R[j]? = some x) (gC : g < C) (hn : nr l one m s x = false) (b : Below C w' w2) (hp : ∃ u, Mp C w2 kp u (P ++ (nrs l one m s (R.take j)).map (pw l))) (hR : off + R.length ≤ D.length) : Dy C w (w2.setCell ⟨g, off + i, none⟩ (.int .i64 (x : Int))) kp g off l one m s P D R (i + 1) (j + 1) := by
  have e1 : nks l one m s (R.take (j + 1)) = nks l one m s (R.take j) ++ [x] := by rw [take_succ hx]; unfold nks; rw [List.filter_append]; simp [hn]
  have e2 : nrs l one m s (R.take (j + 1)) = nrs l one m s (R.take j) := by rw [take_succ hx]; unfold nrs; rw [List.filter_append]; simp [hn]
  have hj := (List.getElem?_eq_some_iff.1 hx).1
  obtain ⟨E, d1, d2, d3, d4⟩ := h.d
  obtain ⟨u, hu⟩ := hp
  have hi := h.hi
  have ij := h.hij
  refine ⟨(h.f.trans (Gf.of b)).trans (Gf.set _ _), ⟨E.set (off + i) x, Di.set ((b.block _ gC).trans d1) (off + i) x, by rw [List.length_set]; exact d2, fun k y hk => ?_, fun k y hk hy => ?_⟩, ⟨u, ?_⟩, by rw [e1, List.length_append, ← hi]; rfl, by omega⟩
  · rw [e1] at hk
    by_cases hki : k < i
    · rw [List.getElem?_append_left (by omega)] at hk
      rw [List.getElem?_set_ne (by omega)]; exact d3 k y hk
    · have hlt := (List.getElem?_eq_some_iff.1 hk).1
      rw [List.length_append, ← hi] at hlt
      simp only [List.length_cons, List.length_nil] at hlt
      obtain rfl : k = i := by omega
      rw [List.getElem?_append_right (by omega), ← hi, Nat.sub_self] at hk
      simp only [List.getElem?_cons_zero, Option.some.injEq] at hk
      subst hk
      rw [List.getElem?_set_self (by omega)]
  · rw [List.getElem?_set_ne (by omega)]
    exact d4 k y (by omega) hy
  · rw [e2]
    exact hu.blk fun k hk _ => Deep.blk_setCell_other _ _ _ _ (by simp only; omega)
set_option maxRecDepth 100000 in
set_option maxHeartbeats 4000000 in
theorem del_walk (C : Nat) (kl ko km ks kp : Nat) (a : Option Addr) (n cap : Nat) (l : List Pt) (one : Pt) (m s : Nat) (u : Value) (P : List Nat) (g off N co : Nat) (D R : List Nat) (w : World) (h : Mc C w kl ko km ks a n cap l one m s) (e : Mn g kl ko km ks a) (q : Mp C w kp u P) (hPl : P.length + N ≤ 1048576)
    (hd : Di w g D) (gC : g < C) (hR : ∀ k x : Nat, R[k]? = some x → D[off + k]? = some x) (hD : off + N ≤ D.length) (hl : R.length = N) (hm : ∀ x ∈ R, x < l.length) (hN : N ≤ co) (hc : co ≤ 9223372036854775807) :
    Calls Try.prog 43 #[.slice (some ⟨g, off, none⟩) N co, .func (.func 44) #[] #[.pointer (some ⟨kl, 0, none⟩), .pointer (some ⟨ko, 0, none⟩), .pointer (some ⟨km, 0, none⟩), .pointer (some ⟨ks, 0, none⟩), .pointer (some ⟨kp, 0, none⟩)]] w
      (fun e w' => e = .returned (.slice (some ⟨g, off, none⟩) (nks l one m s R).length co) ∧ Dx C w w' kp g off co l one m s P D R) := by
  have hcf : ∀ (args : Array Value) (w : World), (callFunc 44 args).run Try.prog w = .ok (.enter 44 args) w := fun _ _ => by kernel_rfl
  have H := Lib.hid h
  have E := Lib.hid e
  have Q := Lib.hid q
  have HD := Lib.hid hd
  have HR := Lib.hid (And.intro hR (And.intro hl hm))
  have kz := h.kz
  have I := Lib.hid (idx_walk C kl ko km ks kp a n cap l one m s u P g off N co D R w h q (by omega) hd gC hR hl hm hN hc)
  clear h q hd hR hl hm e
  go_enter Try.func43, Try.ntmps43
  go_wp2_with fail
  refine I.out.mono ?_
  rintro e w1 ⟨v, rfl, ⟨b1, r1⟩⟩
  clear I
  rcases r1 with ⟨rfl, hall, u1, q1⟩ | ⟨k, x, rfl, hx, hall, hn, u1, q1⟩
  · have A1 := Lib.hid (show nks l one m s R = R from List.filter_eq_self.2 fun x hx => by rw [List.all_eq_true] at hall; exact hall x hx)
    have A2 := Lib.hid (show nrs l one m s R = [] from List.filter_eq_nil_iff.2 fun x hx => by rw [List.all_eq_true] at hall; simpa using hall x hx)
    have Q1 := Lib.hid q1
    have B1 := Lib.hid b1
    clear q1 b1 hall
    go_wp2_with fail
    go_ret
    refine ⟨by rw [A1.out, HR.out.2.1]; rfl, Gf.of B1.out, ⟨D, (B1.out.block _ gC).trans HD.out, rfl, by rw [A1.out]; exact HR.out.1⟩, u1, by rw [A2.out]; simpa using Q1.out⟩
  · have kN := (List.getElem?_eq_some_iff.1 hx).1
    have kN2 : k < N := by rw [← HR.out.2.1]; exact kN
    have A1 : nks l one m s (R.take k) = R.take k := List.filter_eq_self.2 fun x hx => by rw [List.all_eq_true] at hall; exact hall x hx
    have A2 : nrs l one m s (R.take k) = [] := List.filter_eq_nil_iff.2 fun x hx => by rw [List.all_eq_true] at hall; simpa using hall x hx
    have DY : Hid (Dy C w w1 kp g off l one m s P D R k (k + 1)) := Lib.hid (by
      refine ⟨Gf.of b1, ⟨D, (b1.block _ gC).trans HD.out, rfl, fun t y ht => ?_, fun t y _ ht => HR.out.1 t y ht⟩, ⟨u1, ?_⟩, ?_, by omega⟩
      · have : nks l one m s (R.take (k + 1)) = R.take k := by rw [take_succ hx]; unfold nks at A1 ⊢; rw [List.filter_append, A1]; simp [hn]
        rw [this, List.getElem?_take] at ht
        split at ht
        · exact HR.out.1 t y ht
        · cases ht
      · have : nrs l one m s (R.take (k + 1)) = [x] := by rw [take_succ hx]; unfold nrs at A2 ⊢; rw [List.filter_append, A2]; simp [hn]
        rw [this]; exact q1
      · have : nks l one m s (R.take (k + 1)) = R.take k := by rw [take_succ hx]; unfold nks at A1 ⊢; rw [List.filter_append, A1]; simp [hn]
        rw [this, List.length_take]; omega)
    have hv : ((k : Int) == -1) = false := by rw [beq_eq_false_iff_ne]; omega
    have hv2 : ¬ (k : Int) = -1 := by omega
    clear q1 b1 hall A1 A2 hn hx kN
    go_wp2_with fail
    go_loopw [5, 6] (fun vi vj wr => ∃ (i j : Nat), vi = .int .i64 i ∧ vj = .int .i64 j ∧ j ≤ N ∧ Dy C w wr kp g off l one m s P D R i j) (fun _ vj _ => N - (intOf vj).toNat)
    case atStart => exact ⟨k, k + 1, rfl, by go_num, by omega, DY.out⟩
    case round =>
      clear DY
      obtain ⟨i, j, rfl, rfl, hj, hy⟩ := hrel
      have Y := Lib.hid hy
      have yi := hy.hij
      clear hy
      by_cases hlt : j < N
      · obtain ⟨x, hx⟩ : ∃ x, R[j]? = some x := ⟨_, List.getElem?_eq_getElem (by rw [HR.out.2.1]; exact hlt)⟩
        obtain ⟨F, d1, d2, d3, d4⟩ := Y.out.d
        obtain ⟨u2, q2⟩ := Y.out.p
        have c0 := d1.cell (d4 j x (Nat.le_refl _) hx)
        have gl := d1.lt
        have kn : (j : Int) < (N : Int) := by omega
        have iN : (i : Int) < (N : Int) := by omega
        have hxl := HR.out.2.2 x (List.mem_of_getElem? hx)
        obtain ⟨B, hB⟩ : ∃ B, nearB m s (l.getD x pt0) one = B := ⟨_, rfl⟩
        have PL : (P ++ (nrs l one m s (R.take j)).map (pw l)).length ≤ 1048576 := by
          rw [List.length_append, List.length_map]
          have := nrs_le l one m s (R.take j)
          rw [List.length_take] at this
          omega
        have I := Lib.hid (near_walk C kl ko km ks kp a n cap l one m s u2 _ x _ wr (H.out.gf E.out Y.out.f) q2 PL B hB (getP hxl))
        have HX := Lib.hid hx
        have HBB := Lib.hid (show nr l one m s x = B from hB)
        have D1 := Lib.hid d1
        have DL := Lib.hid (show off + i < F.length by omega)
        clear hx hB d1 d2 d3 d4 q2 PL hxl
        go_wp2_with fail
        refine I.out.mono ?_
        rintro e w2 ⟨rfl, p3, b3⟩
        have P3 := Lib.hid p3
        have B3 := Lib.hid b3
        have D2 := Lib.hid (show Di w2 g F from (b3.block _ gC).trans D1.out)
        clear p3 b3 I c0 gl D1
        cases B with
        | true =>
          have NX := Lib.hid (Y.out.yes HX.out gC HBB.out B3.out P3.out)
          go_wp2_with fail
          go_roundw
          case rel => exact ⟨i, j + 1, rfl, by go_num, by omega, NX.out⟩
          case measure => simp only [intOf]; omega
        | false =>
          have NX := Lib.hid (Y.out.no HX.out gC HBB.out B3.out P3.out (by rw [HR.out.2.1]; exact hD))
          obtain ⟨y, hy⟩ : ∃ y, F[off + i]? = some y := ⟨_, List.getElem?_eq_getElem DL.out⟩
          have c1 := D2.out.cell hy
          have f1 := D2.out.frozen (off + i)
          have gl := D2.out.lt
          clear hy
          go_wp2_with fail
          go_roundw
          case rel => exact ⟨i + 1, j + 1, by go_num, by go_num, by omega, NX.out⟩
          case measure => simp only [intOf]; omega
      · obtain rfl : j = N := by omega
        have iN : (i : Int) < (j : Int) := by omega
        obtain ⟨F, d1, d2, d3, d4⟩ := Y.out.d
        have hclr : ∀ ty, (Builtin.clear_ #[48] ty #[.slice (some ⟨g, off + i, none⟩) (j - i) (co - i)]).run Try.prog wr = .ok (.tuple #[]) (wr.setCells g (off + i) (List.replicate (j - i) (.int .i64 0))) := fun ty =>
          Lib.run_clear_slice wr 48 3 ty (.int .i64 0) Try.und48 zero3 rfl rfl g (off + i) (j - i) (co - i) (by omega) (fun t ht => by
            obtain ⟨y, hy⟩ : ∃ y, F[off + i + t]? = some y := ⟨_, List.getElem?_eq_getElem (by omega)⟩
            rw [d1.cell hy]; rfl) (fun t ht => d1.frozen _)
        have D1 := Lib.hid d1
        have D23 := Lib.hid (And.intro d2 d3)
        clear d1 d2 d3 d4
        go_wp2_with fail
        go_ret
        have eT : R.take j = R := List.take_of_length_le (by rw [HR.out.2.1]; exact Nat.le_refl _)
        have hi := Y.out.hi
        obtain ⟨u2, q2⟩ := Y.out.p
        rw [eT] at hi q2
        have d3 := D23.out.2
        rw [eT] at d3
        obtain ⟨F', z1, z2, z3⟩ := Di.zeros (j - i) (off + i) F wr D1.out
        refine ⟨by rw [← hi]; rfl, Y.out.f.trans (Gf.sets _ _ _), ⟨F', z1, z2.trans D23.out.1, fun t y ht => ?_⟩, u2, q2.blk fun t ht _ => sets_other (by omega) _ _ _⟩
        rw [z3 _ (by have := (List.getElem?_eq_some_iff.1 ht).1; omega)]
        exact d3 t y ht
end Go.Proofs.Ytdngkeefbpffcaa
