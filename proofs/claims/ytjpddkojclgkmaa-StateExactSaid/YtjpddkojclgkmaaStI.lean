import Derived.Test.YtjpddkojclgkmaaStK
import Derived.Test.YtjpddkojclgkmaaFlY
import Derived.WalkKit
import Derived.WalkLawsBesides
import Derived.WalkSpells
import Derived.BigQuiet
import Derived.Lib.Hide
import Derived.Outline
set_option autoImplicit false
namespace Go.Proofs.Ytjpddkojclgkmaa
open Go.RowKit Lk

def RV (lo hi : Int) (w : World) (e : Ending) (w' : World) : Prop := ∃ r k, e = .returned (.float .f64 r) ∧ (V r k ∧ lo ≤ k ∧ k ≤ hi ∧ sgn r = decide (k < 0) ∧ r < 2 ^ 64) ∧ w = w'
theorem tmod_bd (n m : Int) (hm : 0 < m) : -m < n.tmod m ∧ n.tmod m < m := by
  have h1 := Int.tmod_lt_of_pos n hm
  have h2 := Int.lt_tmod_of_pos n hm
  omega
theorem small_num (n m lo : Int) (hm : 0 < m) (hm2 : m ≤ 2097153) (h1 : -1048576 ≤ lo) (h2 : lo ≤ 0) : lo ≤ wrap64 (lo + (wrap64 (n.tmod m + m)).tmod m) ∧ wrap64 (lo + (wrap64 (n.tmod m + m)).tmod m) ≤ lo + m - 1 := by
  obtain ⟨a, b⟩ := tmod_bd n m hm
  have e : wrap64 (n.tmod m + m) = n.tmod m + m := by unfold wrap64; omega
  rw [e]
  generalize n.tmod m = q at *
  rw [Int.tmod_eq_emod_of_nonneg (by omega)]
  have c1 := Int.emod_nonneg (q + m) (b := m) (by omega)
  have c2 := Int.emod_lt_of_pos (q + m) hm
  generalize (q + m) % m = r at *
  unfold wrap64
  omega
theorem RV.mk {k lo hi : Int} (h1 : lo ≤ k) (h2 : k ≤ hi) (hlo : -(2 ^ 40) ≤ lo) (hhi : hi ≤ 2 ^ 40) (w : World) : RV lo hi w (.returned (.float .f64 (floatOfInt .f64 k))) w := by
  obtain ⟨a, b, c⟩ := V.ofInt (n := k) (by omega)
  exact ⟨_, k, rfl, ⟨a, h1, h2, c, b⟩, rfl⟩
theorem small_a (n : Int) (w : World) (h1 : -2147483648 ≤ n) (h2 : n ≤ 2147483647) : Calls Try.prog 23 #[.int .i32 n, .int .i64 (-1048576), .int .i64 1048576] w (RV (-1048576) 1048576 w) := by
  have H := Lib.hid (small_num n 2097153 (-1048576) (by omega) (by omega) (by omega) (by omega))
  go_enter Try.func23, Try.ntmps23
  go_wp2
  go_ret
  exact RV.mk H.out.1 (by have := H.out.2; omega) (by omega) (by omega) w
theorem small_b (n : Int) (w : World) (h1 : -2147483648 ≤ n) (h2 : n ≤ 2147483647) : Calls Try.prog 23 #[.int .i32 n, .int .i64 0, .int .i64 1048576] w (RV 0 1048576 w) := by
  have H := Lib.hid (small_num n 1048577 0 (by omega) (by omega) (by omega) (by omega))
  go_enter Try.func23, Try.ntmps23
  go_wp2
  go_ret
  refine RV.mk ?_ ?_ (by omega) (by omega) w
  · have := H.out.1; simpa using this
  · have := H.out.2; simp at this ⊢; omega
/-! ahead by t and by u, over whole numbers -/
structure VS (s : St) (x v pxx pxv pvv : Int) : Prop where
  x : V s.x x
  v : V s.v v
  pxx : V s.pxx pxx
  pxv : V s.pxv pxv
  pvv : V s.pvv pvv
theorem V.abv {w : Nat} {n : Int} (h : V w n) (hn : 0 ≤ n) : V (abv w) n := by
  unfold Lk.abv
  rw [V.cgt h V.zero]
  by_cases h0 : 0 < n
  · rw [if_pos (by simpa using h0)]; exact h
  · rw [if_neg (by simpa using h0)]
    have : n = 0 := by omega
    rw [this]; exact V.zero
theorem ahead_int {s : St} {t : Nat} {x v pxx pxv pvv k : Int} (h : VS s x v pxx pxv pvv) (ht : V t k) (hk : 1 ≤ k) (hk2 : k ≤ 32)
    (hx : x.natAbs ≤ 2 ^ 30) (hv : v.natAbs ≤ 2 ^ 20) (h1 : 0 ≤ pxx) (h1' : pxx ≤ 2 ^ 40) (h2 : 0 ≤ pxv) (h2' : pxv ≤ 2 ^ 40) (h3 : 0 ≤ pvv) (h3' : pvv ≤ 2 ^ 20) :
    VS (aheadF s t 0) (x + v * k) v (pxx + pxv * k + pxv * k + pvv * k * k) (pxv + pvv * k) pvv := by
  have b1 : v * k ≤ 2 ^ 25 := by
    have := Int.mul_le_mul_of_nonneg_right (show v ≤ 2 ^ 20 by omega) (show 0 ≤ k by omega)
    have := Int.mul_le_mul_of_nonneg_left hk2 (show (0 : Int) ≤ 2 ^ 20 by omega)
    omega
  have b1' : -(2 ^ 25) ≤ v * k := by
    have := Int.mul_le_mul_of_nonneg_right (show -(2 ^ 20) ≤ v by omega) (show 0 ≤ k by omega)
    have := Int.mul_le_mul_of_nonneg_left hk2 (show (0 : Int) ≤ 2 ^ 20 by omega)
    omega
  have b2 : 0 ≤ pxv * k := Int.mul_nonneg h2 (by omega)
  have b2' : pxv * k ≤ 2 ^ 45 := by
    have := Int.mul_le_mul_of_nonneg_right h2' (show 0 ≤ k by omega)
    have := Int.mul_le_mul_of_nonneg_left hk2 (show (0 : Int) ≤ 2 ^ 40 by omega)
    omega
  have b3 : 0 ≤ pvv * k := Int.mul_nonneg h3 (by omega)
  have b3' : pvv * k ≤ 2 ^ 25 := by
    have := Int.mul_le_mul_of_nonneg_right h3' (show 0 ≤ k by omega)
    have := Int.mul_le_mul_of_nonneg_left hk2 (show (0 : Int) ≤ 2 ^ 20 by omega)
    omega
  have b4 : 0 ≤ pvv * k * k := Int.mul_nonneg b3 (by omega)
  have b4' : pvv * k * k ≤ 2 ^ 30 := by
    have := Int.mul_le_mul_of_nonneg_right b3' (show 0 ≤ k by omega)
    have := Int.mul_le_mul_of_nonneg_left hk2 (show (0 : Int) ≤ 2 ^ 25 by omega)
    omega
  have hc : cgt t 0 = true := by rw [V.cgt ht V.zero]; simpa using by omega
  unfold aheadF
  rw [if_pos hc]
  have q : V (fmul 0 t) (0 * k) := V.zero.mul ht (by rw [Int.zero_mul]; decide)
  rw [Int.zero_mul] at q
  have qt : V (fmul (fmul 0 t) t) (0 * k) := q.mul ht (by rw [Int.zero_mul]; decide)
  rw [Int.zero_mul] at qt
  have qtt : V (fmul (fmul (fmul 0 t) t) t) (0 * k) := qt.mul ht (by rw [Int.zero_mul]; decide)
  rw [Int.zero_mul] at qtt
  have q3 : V (fdiv (fmul (fmul (fmul 0 t) t) t) C3) 0 := qtt.div V.three (by omega) (by omega) (by decide)
  have q2 : V (fdiv (fmul (fmul 0 t) t) C2) 0 := qt.div V.two (by omega) (by omega) (by decide)
  have vt := h.v.mul ht (by omega)
  have pt := h.pxv.mul ht (by omega)
  have rt := h.pvv.mul ht (by omega)
  have rtt := rt.mul ht (by omega)
  refine ⟨h.x.add vt (by omega), h.v, ?_, ?_, ?_⟩
  · have := (((h.pxx.add pt (by omega)).add pt (by omega)).add rtt (by omega)).add q3 (by omega)
    have := V.abv this (by omega)
    simpa using this
  · have := (h.pxv.add rt (by omega)).add q2 (by omega)
    simpa using this
  · have := h.pvv.add q (by omega)
    simpa using this
theorem VS.is {s S : St} {x v pxx pxv pvv : Int} (h : VS S x v pxx pxv pvv) (hs : IsS s S) : VS s x v pxx pxv pvv := by
  have e1 := hs.x.eq h.x.1.not_nan
  have e2 := hs.v.eq h.v.1.not_nan
  have e3 := hs.pxx.eq h.pxx.1.not_nan
  have e4 := hs.pxv.eq h.pxv.1.not_nan
  have e5 := hs.pvv.eq h.pvv.1.not_nan
  exact ⟨e1 ▸ h.x, e2 ▸ h.v, e3 ▸ h.pxx, e4 ▸ h.pxv, e5 ▸ h.pvv⟩
/-- by both at once, or one behind the other -/
theorem ahead_both {s : St} {t u tu : Nat} {x v pxx pxv pvv k l : Int} (h : VS s x v pxx pxv pvv) (ht : V t k) (hu : V u l) (htu : V tu (k + l)) (hk : 1 ≤ k) (hk2 : k ≤ 16) (hl : 1 ≤ l) (hl2 : l ≤ 16)
    (hx : x.natAbs ≤ 2 ^ 20) (hv : v.natAbs ≤ 2 ^ 20) (h1 : 0 ≤ pxx) (h1' : pxx ≤ 2 ^ 20) (h2 : 0 ≤ pxv) (h2' : pxv ≤ 2 ^ 20) (h3 : 0 ≤ pvv) (h3' : pvv ≤ 2 ^ 20) {s1 s2 s3 : St}
    (e1 : IsS s1 (aheadF s t 0)) (e2 : IsS s2 (aheadF s1 u 0)) (e3 : IsS s3 (aheadF s tu 0)) :
    ceq s2.x s3.x = true ∧ ceq s2.v s3.v = true ∧ ceq s2.pxx s3.pxx = true ∧ ceq s2.pxv s3.pxv = true ∧ ceq s2.pvv s3.pvv = true := by
  have b1 : v * k ≤ 2 ^ 25 := by
    have := Int.mul_le_mul_of_nonneg_right (show v ≤ 2 ^ 20 by omega) (show 0 ≤ k by omega)
    have := Int.mul_le_mul_of_nonneg_left hk2 (show (0 : Int) ≤ 2 ^ 20 by omega)
    omega
  have b1' : -(2 ^ 25) ≤ v * k := by
    have := Int.mul_le_mul_of_nonneg_right (show -(2 ^ 20) ≤ v by omega) (show 0 ≤ k by omega)
    have := Int.mul_le_mul_of_nonneg_left hk2 (show (0 : Int) ≤ 2 ^ 20 by omega)
    omega
  have b2 : 0 ≤ pxv * k := Int.mul_nonneg h2 (by omega)
  have b2' : pxv * k ≤ 2 ^ 25 := by
    have := Int.mul_le_mul_of_nonneg_right h2' (show 0 ≤ k by omega)
    have := Int.mul_le_mul_of_nonneg_left hk2 (show (0 : Int) ≤ 2 ^ 20 by omega)
    omega
  have b3 : 0 ≤ pvv * k := Int.mul_nonneg h3 (by omega)
  have b3' : pvv * k ≤ 2 ^ 25 := by
    have := Int.mul_le_mul_of_nonneg_right h3' (show 0 ≤ k by omega)
    have := Int.mul_le_mul_of_nonneg_left hk2 (show (0 : Int) ≤ 2 ^ 20 by omega)
    omega
  have b4 : 0 ≤ pvv * k * k := Int.mul_nonneg b3 (by omega)
  have b4' : pvv * k * k ≤ 2 ^ 30 := by
    have := Int.mul_le_mul_of_nonneg_right b3' (show 0 ≤ k by omega)
    have := Int.mul_le_mul_of_nonneg_left hk2 (show (0 : Int) ≤ 2 ^ 25 by omega)
    omega
  have v1 := (ahead_int h ht hk (by omega) (by omega) hv h1 (by omega) h2 (by omega) h3 h3').is e1
  have v2 := (ahead_int v1 hu hl (by omega) (by omega) hv (by omega) (by omega) (by omega) (by omega) h3 h3').is e2
  have v3 := (ahead_int h htu (by omega) (by omega) (by omega) hv h1 (by omega) h2 (by omega) h3 h3').is e3
  refine ⟨?_, ?_, ?_, ?_, ?_⟩
  · rw [V.ceq v2.x v3.x, decide_eq_true_eq]; grind
  · rw [V.ceq v2.v v3.v, decide_eq_true_eq]
  · rw [V.ceq v2.pxx v3.pxx, decide_eq_true_eq]; grind
  · rw [V.ceq v2.pxv v3.pxv, decide_eq_true_eq]; grind
  · rw [V.ceq v2.pvv v3.pvv, decide_eq_true_eq]
end Go.Proofs.Ytjpddkojclgkmaa
