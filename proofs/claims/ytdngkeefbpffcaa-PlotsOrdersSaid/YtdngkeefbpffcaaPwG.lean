import Derived.Test.YtdngkeefbpffcaaPwE
import Derived.Test.YtdngkeefbpffcaaPlW
set_option autoImplicit false
set_option linter.unusedVariables false
namespace Go.Proofs.Ytdngkeefbpffcaa
open Go.RowKit Lk Pl
/-! the document's sum of powers, and two lists held against one another -/
set_option maxRecDepth 100000 in
set_option maxHeartbeats 4000000 in
theorem rsums_walk (B : Nat) (v : Value) (p : Nat) (ps : List Nat) (w : World) (h : w.ownsRow B 22 1 v (ps.length + 1) (flv (p :: ps))) (hlt : ∀ x ∈ p :: ps, x < 2 ^ 64) (hn : ps.length ≤ 1048576) :
    Calls Try.prog 42 #[v] w (fun e w' => ∃ x, e = .returned (.float .f64 x) ∧ Is x (sumP (p :: ps)) ∧ x < 2 ^ 64 ∧ Below w.heap.size w w') := by
  obtain ⟨g, c, rfl, gl, hc, h63, cells⟩ := row_cell (P := p :: ps) h (by simp)
  have c0 := cells 0 p rfl
  have CE := Lib.hid (fun k x (hx : ps[k]? = some x) => cells (k + 1) x (by simpa using hx))
  have LT := Lib.hid (fun x (hx : x ∈ ps) => hlt x (by simp [hx]))
  have p64 := hlt p (by simp)
  simp only [List.length_cons] at hc
  obtain ⟨M, hM⟩ : ∃ M, M = ps.length := ⟨_, rfl⟩
  have HM := Lib.hid hM
  have e1 : (Value.slice (some ⟨g, 0, none⟩) (p :: ps).length c) = .slice (some ⟨g, 0, none⟩) (M + 1) c := by rw [hM]; rfl
  rw [e1]
  rw [← hM] at hc hn
  have n0 : (((M : Int) + 1) == 0) = false := by rw [beq_eq_false_iff_ne]; omega
  have n1 : ¬ ((M : Int) + 1) = 0 := by omega
  have n2 : (0 : Int) < (M : Int) + 1 := by omega
  have n3 : (0 : Int) ≤ (M : Int) := by omega
  clear cells hlt h e1 hM
  go_enter Try.func42, Try.ntmps42
  go_wp2_with fail
  go_loopw [3, 4] (fun v3 vi wr => ∃ (k s : Nat), v3 = .float .f64 s ∧ vi = .int .i64 ((k + 1 : Nat) : Int) ∧ k ≤ M ∧ Is s ((ps.take k).foldl fadd p) ∧ s < 18446744073709551616 ∧ Below w.heap.size w wr) (fun _ vi _ => M + 1 - (intOf vi).toNat)
  case atStart => exact ⟨0, p, rfl, rfl, by omega, Is.refl _, p64, Below.refl _ _⟩
  case round =>
    obtain ⟨k, s, rfl, rfl, hk, his, hs, hb⟩ := hrel
    have HB := Lib.hid hb
    clear hb
    by_cases hlt : k < M
    · obtain ⟨x, hx⟩ : ∃ x, ps[k]? = some x := ⟨_, List.getElem?_eq_getElem (by rw [← HM.out]; exact hlt)⟩
      have c1 := (HB.out.cell (p := ⟨g, k + 1, none⟩) gl).trans (CE.out k x hx)
      have gl2 := Nat.lt_of_lt_of_le gl HB.out.size
      have kn : (k : Int) < (M : Int) := by omega
      have kn1 : ((k + 1 : Nat) : Int) < (M : Int) + 1 := by omega
      have kn2 : (0 : Int) ≤ (k : Int) + 1 := by omega
      have wz : IntKind.i64.wrap ((k : Int) + 1 + 1) = (k : Int) + 1 + 1 := IntWalk.i64_in _ (by omega)
      have ST := Lib.hid (sum_step (p := p) hx)
      clear hx
      go_wp2_with ((with_reducible refine wpList_float (x := ?_) (y := ?_) (X := ?_) (Y := ?_) rfl rfl ?_ ?_ ?_ ?_ ?_ ?_); (· rfl); (rotate_left 4); (· rfl); (· rfl); (· first | assumption | exact Is.refl _); (· first | assumption | exact Is.refl _); intro v n hv hl)
      go_roundw
      case rel => exact ⟨k + 1, v, rfl, by go_num, by omega, by rw [ST.out]; exact hv, hl, below_drewN HB.out _⟩
      case measure => simp only [intOf]; omega
    · have eT := Lib.hid (show ps.take k = ps from List.take_of_length_le (by rw [← HM.out]; omega))
      have kn1 : ¬ ((k + 1 : Nat) : Int) < (M : Int) + 1 := by omega
      go_wp2_with fail
      go_ret
      exact ⟨s, rfl, by rw [eT.out] at his; exact his, hs, HB.out⟩
/-- two lists that are the same but for words of no number -/
def IsL (L M : List Pt) : Prop := L.length = M.length ∧ ∀ (k : Nat) (p q : Pt), L[k]? = some p → M[k]? = some q → IsP p q
theorem sameP_is {p q : Pt} (h : IsP p q) : sameP p q = true := by
  unfold sameP
  rw [sameF_is h.range, sameF_is h.speed, sameF_is h.power, sameF_is h.bearing, sameF_is h.time]; rfl
set_option maxRecDepth 100000 in
set_option maxHeartbeats 4000000 in
theorem sameplots_walk (a b : Option Addr) (n c1 c2 : Nat) (L M : List Pt) (W : World) (h1 : Sp W a n c1 L) (h2 : Sp W b n c2 M) (h : IsL L M) :
    Calls Try.prog 24 #[.slice a n c1, .slice b n c2] W (fun e w' => e = .returned (.bool true) ∧ Below W.heap.size W w') := by
  have S1 := Lib.hid h1
  have S2 := Lib.hid h2
  have IL := Lib.hid h.2
  have n63 := Nat.le_trans h1.le h1.small
  clear h1 h2 h
  go_enter Try.func24, Try.ntmps24
  go_wp2_with fail
  go_loopw [5] (fun v5 wr => ∃ k : Nat, v5 = .int .i64 k ∧ k ≤ n ∧ Below W.heap.size W wr) (fun v5 _ => n - (intOf v5).toNat)
  case atStart => exact ⟨0, rfl, by omega, Below.refl _ _⟩
  case round =>
    obtain ⟨k, rfl, hk, hb⟩ := hrel
    have B := Lib.hid hb
    clear hb
    by_cases hlt : k < n
    · have kn : (k : Int) < (n : Int) := by omega
      obtain ⟨bp, op, p, rfl, hb, hp, ⟨p0, p1, p2, p3, p4⟩, ltp⟩ := (S1.out.keep B.out).at hlt
      obtain ⟨bq, oq, q, rfl, hbq, hq, ⟨q0, q1, q2, q3, q4⟩, ltq⟩ := (S2.out.keep B.out).at hlt
      have CS := Lib.hid (fun w => (sameP_is (IL.out k p q hp hq)) ▸ sameplot_walk p q w)
      clear hp hq ltp ltq IL S1 S2
      obtain ⟨w8, e8⟩ : ∃ y, y = wr := ⟨_, rfl⟩
      rw [← e8] at B hb hbq p0 p1 p2 p3 p4 q0 q1 q2 q3 q4 ⊢
      clear e8
      go_upto_region 6 with fail
      go_cut [6] (fun v wx => v = .bool true ∧ Below w8.heap.size w8 wx)
      case first =>
        refine wp_region_J 10 (fun x => Below w8.heap.size w8 x) (by kernel_rfl) rfl (by kernel_rfl) ((Below.refl _ w8).drew) (fun wj hJ hs => ?_)
        have HJ := Lib.hid hJ
        clear hJ
        (refine j_take 0 _ ?_ hs rfl rfl (by kernel_rfl) (by kernel_rfl) HJ.out (fun w' hw' => ?_) ?_; rotate_left; (· skip; go_simp; rfl); (go_simp))
        (refine j_take 1 _ ?_ hs rfl rfl (by kernel_rfl) (by kernel_rfl) HJ.out (fun w' hw' => ?_) ?_; rotate_left; (· skip; go_simp; rfl); (go_simp))
        (refine j_take 2 _ ?_ hs rfl rfl (by kernel_rfl) (by kernel_rfl) HJ.out (fun w' hw' => ?_) ?_; rotate_left; (· skip; go_simp; rfl); (go_simp))
        (refine j_take 3 _ ?_ hs rfl rfl (by kernel_rfl) (by kernel_rfl) HJ.out (fun w' hw' => ?_) ?_; rotate_left; (· obtain ⟨d0, d1, d2, d3, d4⟩ := AtP.keep ⟨p0, p1, p2, p3, p4⟩ hb hw'; go_simp; rfl); (go_simp))
        (refine j_take 4 _ ?_ hs rfl rfl (by kernel_rfl) (by kernel_rfl) HJ.out (fun w' hw' => ?_) ?_; rotate_left; (· skip; go_simp; rfl); (go_simp))
        (refine j_take 5 _ ?_ hs rfl rfl (by kernel_rfl) (by kernel_rfl) HJ.out (fun w' hw' => ?_) ?_; rotate_left; (· skip; go_simp; rfl); (go_simp))
        (refine j_take 6 _ ?_ hs rfl rfl (by kernel_rfl) (by kernel_rfl) HJ.out (fun w' hw' => ?_) ?_; rotate_left; (· skip; go_simp; rfl); (go_simp))
        (refine j_take 7 _ ?_ hs rfl rfl (by kernel_rfl) (by kernel_rfl) HJ.out (fun w' hw' => ?_) ?_; rotate_left; (· obtain ⟨d0, d1, d2, d3, d4⟩ := AtP.keep ⟨q0, q1, q2, q3, q4⟩ hbq hw'; go_simp; rfl); (go_simp))
        refine j_one 8 _ rfl (by kernel_rfl) HJ.out ?_
        go_wp2_with fail
        refine (CS.out _).mono ?_
        rintro e w9 ⟨rfl, b9⟩
        have HJ := Lib.hid (HJ.out.trans (b9.mono HJ.out.size))
        clear b9
        go_wp2_with fail
        refine ⟨HJ.out, ?_⟩
        refine j_one 9 _ rfl (by kernel_rfl) HJ.out ?_
        go_wp2_with fail
        refine ⟨HJ.out, ?_⟩
        refine j_done (by kernel_rfl) ?_
        go_wp2_with fail
        go_meet
        exact ⟨rfl, HJ.out⟩
      case rest =>
        obtain ⟨rfl, bb⟩ := hcut
        have B5 := Lib.hid (B.out.trans (bb.mono B.out.size))
        clear bb
        go_wp2_with fail
        go_roundw
        case rel => exact ⟨k + 1, by go_num, by omega, B5.out⟩
        case measure => simp only [intOf]; omega
    · obtain rfl : k = n := by omega
      go_wp2_with fail
      go_ret
      exact ⟨rfl, B.out⟩
end Go.Proofs.Ytdngkeefbpffcaa

set_option autoImplicit false
set_option linter.unusedVariables false
namespace Pl
open Lk
/-- what of the order is not taken, from a place on -/
def lft (O : List Nat) (T : Nat → Bool) (i : Nat) : List Nat := (O.drop i).filter fun y => !T y
def sgm (O : List Nat) (i k : Nat) : List Nat := (O.drop i).take (k - i)
/-- what is taken behind k rounds of the inner loop -/
def tkn (O : List Nat) (T N : Nat → Bool) (i k : Nat) (y : Nat) : Bool := T y || (decide (y ∈ sgm O i k) && N y)
def pws (O : List Nat) (T N : Nat → Bool) (i k : Nat) : List Nat := (sgm O i k).filter fun y => N y && !T y
theorem drop_cons' {O : List Nat} {i x : Nat} (h : O[i]? = some x) : O.drop i = x :: O.drop (i + 1) := by
  obtain ⟨h1, h2⟩ := List.getElem?_eq_some_iff.1 h
  rw [← h2]; exact List.drop_eq_getElem_cons h1
theorem sgm_zero (O : List Nat) (i : Nat) : sgm O i i = [] := by unfold sgm; rw [Nat.sub_self]; rfl
theorem sgm_snoc {O : List Nat} {i k y : Nat} (hk : i ≤ k) (h : O[k]? = some y) : sgm O i (k + 1) = sgm O i k ++ [y] := by
  unfold sgm
  rw [show k + 1 - i = (k - i) + 1 by omega, List.take_add_one, List.getElem?_drop, show i + (k - i) = k by omega, h]; rfl
theorem sgm_all {O : List Nat} {i k : Nat} (h : O.length ≤ k) : sgm O i k = O.drop i := by unfold sgm; exact List.take_of_length_le (by rw [List.length_drop]; omega)
theorem sgm_new {O : List Nat} (hn : O.Nodup) {i k y : Nat} (h : O[k]? = some y) (hk : i ≤ k) : y ∉ sgm O i k := by
  intro hm
  unfold sgm at hm
  obtain ⟨j, hj⟩ := List.mem_iff_getElem?.1 hm
  rw [List.getElem?_take] at hj
  split at hj
  · rw [List.getElem?_drop] at hj
    have e := (List.getElem?_inj (by have := (List.getElem?_eq_some_iff.1 h).1; exact this) hn).1 (h.trans hj.symm)
    omega
  · cases hj
theorem tkn_zero (O : List Nat) (T N : Nat → Bool) (i : Nat) : tkn O T N i i = T := by funext y; unfold tkn; rw [sgm_zero]; simp
theorem tkn_new {O : List Nat} (hn : O.Nodup) {T N : Nat → Bool} {i k y : Nat} (h : O[k]? = some y) (hk : i ≤ k) : tkn O T N i k y = T y := by unfold tkn; rw [decide_eq_false (sgm_new hn h hk)]; simp
/-- one that is near and free is taken -/
theorem tkn_set {O : List Nat} {T N : Nat → Bool} {i k y : Nat} (h : O[k]? = some y) (hk : i ≤ k) (hN : N y = true) : tkn O T N i (k + 1) = fun z => tkn O T N i k z || z == y := by
  funext z
  unfold tkn
  rw [sgm_snoc hk h]
  by_cases e : z = y
  · subst e; simp [hN]
  · simp [e]
/-- .. any other one leaves all as it was -/
theorem tkn_keep {O : List Nat} {T N : Nat → Bool} {i k y : Nat} (h : O[k]? = some y) (hk : i ≤ k) (hN : (N y && !T y) = false) : tkn O T N i (k + 1) = tkn O T N i k := by
  funext z
  unfold tkn
  rw [sgm_snoc hk h]
  by_cases e : z = y
  · subst e
    cases hT : T z with
    | true => simp
    | false => rw [hT] at hN; simp at hN; simp [hN]
  · simp [e]
theorem pws_zero (O : List Nat) (T N : Nat → Bool) (i : Nat) : pws O T N i i = [] := by unfold pws; rw [sgm_zero]; rfl
theorem pws_set {O : List Nat} {T N : Nat → Bool} {i k y : Nat} (h : O[k]? = some y) (hk : i ≤ k) (hN : (N y && !T y) = true) : pws O T N i (k + 1) = pws O T N i k ++ [y] := by
  unfold pws; rw [sgm_snoc hk h, List.filter_append]; simp [hN]
theorem pws_keep {O : List Nat} {T N : Nat → Bool} {i k y : Nat} (h : O[k]? = some y) (hk : i ≤ k) (hN : (N y && !T y) = false) : pws O T N i (k + 1) = pws O T N i k := by
  unfold pws; rw [sgm_snoc hk h, List.filter_append]; simp [hN]
theorem pws_len (O : List Nat) (T N : Nat → Bool) (i k : Nat) : (pws O T N i k).length ≤ O.length := by
  unfold pws sgm
  refine Nat.le_trans (List.length_filter_le _ _) ?_
  rw [List.length_take, List.length_drop]; omega
theorem lft_skip {O : List Nat} {T : Nat → Bool} {i x : Nat} (h : O[i]? = some x) (hT : T x = true) : lft O T i = lft O T (i + 1) := by
  unfold lft; rw [drop_cons' h]; simp [hT]
theorem lft_step {O : List Nat} {T : Nat → Bool} {i x : Nat} (h : O[i]? = some x) (hT : T x = false) : lft O T i = x :: lft O T (i + 1) := by
  unfold lft; rw [drop_cons' h]; simp [hT]
theorem lft_end {O : List Nat} {T : Nat → Bool} {i : Nat} (h : O.length ≤ i) : lft O T i = [] := by unfold lft; rw [List.drop_of_length_le h]; rfl
theorem lft_len (O : List Nat) (T : Nat → Bool) (i : Nat) : (lft O T i).length ≤ O.length - i := by
  unfold lft
  refine Nat.le_trans (List.length_filter_le _ _) ?_
  rw [List.length_drop]; exact Nat.le_refl _
end Pl
namespace Go.Proofs.Ytdngkeefbpffcaa
open Go.RowKit Lk Pl
def nx (l : List Pt) (p : Pt) (m s x : Nat) (y : Nat) : Bool := y == x || nr l p m s y
theorem drop_ne {O : List Nat} (hn : O.Nodup) {i x y : Nat} (h : O[i]? = some x) (hy : y ∈ O.drop (i + 1)) : y ≠ x := fun e => by
  subst e
  obtain ⟨j, hj⟩ := List.mem_iff_getElem?.1 hy
  rw [List.getElem?_drop] at hj
  have := (List.getElem?_inj (by exact (List.getElem?_eq_some_iff.1 h).1) hn).1 (h.trans hj.symm)
  omega
/-- what is added up -/
theorem pws_end {O : List Nat} (hn : O.Nodup) {T : Nat → Bool} {l : List Pt} {p : Pt} {m s i x k : Nat} (h : O[i]? = some x) (hT : T x = false) (hk : O.length ≤ k) : pws O T (nx l p m s x) i k = x :: nrs l p m s (lft O T (i + 1)) := by
  unfold pws
  rw [sgm_all hk, drop_cons' h]
  rw [List.filter_cons, if_pos (by unfold nx; simp [hT])]
  congr 1
  unfold nrs lft
  rw [List.filter_filter]
  refine List.filter_congr fun y hy => ?_
  have := beq_eq_false_iff_ne.2 (drop_ne hn h hy)
  show ((y == x || nr l p m s y) && !T y) = (nr l p m s y && !T y)
  rw [this, Bool.false_or]
/-- what is left -/
theorem lft_end2 {O : List Nat} (hn : O.Nodup) {T : Nat → Bool} {l : List Pt} {p : Pt} {m s i x k : Nat} (h : O[i]? = some x) (hk : O.length ≤ k) : lft O (tkn O T (nx l p m s x) i k) (i + 1) = nks l p m s (lft O T (i + 1)) := by
  unfold nks lft
  rw [List.filter_filter]
  refine List.filter_congr fun y hy => ?_
  have ne := drop_ne hn h hy
  have mem : y ∈ sgm O i k := by rw [sgm_all hk, drop_cons' h]; exact List.mem_cons_of_mem _ hy
  unfold tkn nx
  rw [decide_eq_true mem]
  cases T y <;> simp [ne]
theorem ord_nodup (l : List Pt) (n : Nat) : (ordL (ltI l) n).Nodup := by
  unfold List.Nodup
  rw [List.pairwise_iff_getElem]
  intro i j hi hj hij
  have h1 := (ord_ok l n).1
  have := ord_inj l n hij (by omega)
  rw [ord_get (List.getElem?_eq_getElem hi), ord_get (List.getElem?_eq_getElem hj)] at this
  exact this
/-- a row of marks of one's own -/
def Tb (w : World) (g n : Nat) (T : Nat → Bool) : Prop := w.heap[g]? = some (.cells ((List.range n).map fun y => Value.bool (T y)).toArray 4 (0, 0))
theorem Tb.lt {w : World} {g n : Nat} {T : Nat → Bool} (h : Tb w g n T) : g < w.heap.size := (Array.getElem?_eq_some_iff.1 h).1
theorem Tb.cell {w : World} {g n : Nat} {T : Nat → Bool} (h : Tb w g n T) {y : Nat} (hy : y < n) : w.cell? ⟨g, y, none⟩ = some (.bool (T y)) := by
  rw [cell_of_heap h y, List.getElem?_toArray, List.getElem?_map, List.getElem?_range hy]; rfl
theorem Tb.frozen {w : World} {g n : Nat} {T : Nat → Bool} (h : Tb w g n T) (i : Nat) : w.frozen? ⟨g, i, none⟩ = false := by unfold World.frozen?; rw [h]; rfl
theorem Tb.keep {w w' : World} {g n : Nat} {T : Nat → Bool} (h : Tb w g n T) (b : Below w.heap.size w w') : Tb w' g n T := (b.block _ h.lt).trans h
theorem Tb.set {w : World} {g n : Nat} {T : Nat → Bool} (h : Tb w g n T) (y : Nat) : Tb (w.setCell ⟨g, y, none⟩ (.bool true)) g n (fun z => T z || z == y) := by
  unfold Tb
  rw [cells_set w g y _ h]
  congr 2
  apply Array.ext
  · simp
  · intro i h1 h2
    simp at h1 h2
    by_cases e : y = i
    · subst e; simp
    · have e2 : ¬ i = y := fun q => e q.symm
      simp [e, e2]
end Go.Proofs.Ytdngkeefbpffcaa
