import Derived.Test.YtjpddkojclgkmaaFlU
set_option autoImplicit false
set_option linter.unusedVariables false
namespace Lk
open Go Ieee
/-! finite, at most 2^k -/
def Mg (w : Nat) (k : Int) : Prop := Fin w ∧ -(p2 k) ≤ ev w ∧ ev w ≤ p2 k
theorem Mg.up {w : Nat} {j k : Int} (h : Mg w j) (hk : j ≤ k) : Mg w k := ⟨h.1, by have := p2_le hk; have := h.2.1; grind, Rat.le_trans h.2.2 (p2_le hk)⟩
theorem mg_of {w : Nat} {y : Rat} {k : Int} (hn : ¬ Nan w) (he : ev w = rc y) (hk : -1074 ≤ k) (hk2 : k < 1024) (h1 : -(p2 k) ≤ y) (h2 : y ≤ p2 k) : Mg w k := by
  obtain ⟨a, b⟩ := rc_bd hk hk2 h1 h2
  have := p2_lt hk2
  rw [← he] at a b
  exact ⟨fin_of_ev hn (by grind) (by grind), a, b⟩
theorem Mg.mul {a b : Nat} {i j : Int} (h : Mg a i) (h' : Mg b j) (hk : -1074 ≤ i + j) (hk2 : i + j < 1024) : Mg (fmul a b) (i + j) ∧ ev (fmul a b) = rc (ev a * ev b) := by
  obtain ⟨_, g2, g3, _⟩ := fmul_fin h.1 h'.1
  obtain ⟨m1, m2⟩ := mul_abs h.2.1 h.2.2 h'.2.1 h'.2.2
  rw [← p2_add] at m1 m2
  exact ⟨mg_of g2 g3 hk hk2 m2 m1, g3⟩
theorem Mg.add {a b : Nat} {i : Int} (h : Mg a i) (h' : Mg b i) (hk : -1074 ≤ i + 1) (hk2 : i + 1 < 1024) : Mg (fadd a b) (i + 1) ∧ ev (fadd a b) = rc (ev a + ev b) := by
  obtain ⟨_, g2, g3, _⟩ := fadd_fin h.1 h'.1
  obtain ⟨_, a1, a2⟩ := h
  obtain ⟨_, b1, b2⟩ := h'
  exact ⟨mg_of g2 g3 hk hk2 (by rw [p2_succ]; grind) (by rw [p2_succ]; grind), g3⟩
theorem Mg.div {a b : Nat} {i : Int} (h : Mg a i) (fb : Fin b) (hb : 1 ≤ ev b) (hk : -1074 ≤ i) (hk2 : i < 1024) : Mg (fdiv a b) i ∧ ev (fdiv a b) = rc (ev a / ev b) := by
  have b0 : 0 < ev b := by grind
  obtain ⟨_, g2, g3, _⟩ := fdiv_fin h.1 fb (by grind)
  obtain ⟨_, a1, a2⟩ := h
  have p0 := p2_pos i
  have e1 := Rat.mul_le_mul_of_nonneg_left hb (Rat.le_of_lt p0)
  refine ⟨mg_of g2 g3 hk hk2 ?_ ?_, g3⟩
  · apply Decidable.byContradiction
    intro hc
    have := (Rat.div_lt_iff (a := ev a) (b := ev b) (c := -(p2 i)) b0).1 (by grind)
    grind
  · apply Decidable.byContradiction
    intro hc
    have := (Rat.lt_div_iff (a := p2 i) (b := ev a) (c := ev b) b0).1 (by grind)
    grind
/-- the greater of two floats -/
def mx (x y : Nat) : Nat := match double.order x y with | some .lt => y | some .gt => x | _ => if (FloatKind.f64.decode x).neg then y else x
theorem mx_spec {x y : Nat} (hx : ¬ Nan x) (hy : ¬ Nan y) : (mx x y = x ∨ mx x y = y) ∧ ¬ Nan (mx x y) ∧ ev x ≤ ev (mx x y) ∧ ev y ≤ ev (mx x y) := by
  have ho := order_ev hx hy
  unfold mx
  rw [ho]
  unfold cmpR
  split
  · rename_i h
    split at h
    · rename_i h1; exact ⟨.inr rfl, hy, Rat.le_of_lt h1, Rat.le_refl⟩
    · split at h <;> cases h
  · rename_i h
    split at h
    · cases h
    · split at h
      · cases h
      · exact ⟨.inl rfl, hx, Rat.le_refl, by grind⟩
  · rename_i h1 h2
    have he : ev x = ev y := by
      by_cases c1 : ev x < ev y
      · exact absurd (by rw [if_pos c1]) h1
      · by_cases c2 : ev x = ev y
        · exact c2
        · exact absurd (by rw [if_neg c1, if_neg c2]) h2
    split
    · exact ⟨.inr rfl, hy, by rw [he]; exact Rat.le_refl, Rat.le_refl⟩
    · exact ⟨.inl rfl, hx, Rat.le_refl, by rw [he]; exact Rat.le_refl⟩
theorem run_max2 {P : Program} {x y : Nat} {w : World} (hx : ¬ Nan x) (hy : ¬ Nan y) : (Builtin.max2 (.float .f64 x) (.float .f64 y)).run P w = .ok (.float .f64 (mx x y)) w := by
  have ho : FloatKind.f64.format.order x y = some (cmpR (ev x) (ev y)) := order_ev hx hy
  have ho' : double.order x y = some (cmpR (ev x) (ev y)) := order_ev hx hy
  unfold Builtin.max2 mx
  simp only [ho, ho']
  cases cmpR (ev x) (ev y) <;> rfl
def mx6 (a b c d e f : Nat) : Nat := mx (mx (mx (mx (mx a b) c) d) e) f
theorem run_max6 {P : Program} {a b c d e f : Nat} (ha : ¬ Nan a) (hb : ¬ Nan b) (hc : ¬ Nan c) (hd : ¬ Nan d) (he : ¬ Nan e) (hf : ¬ Nan f) (ts : Array TypeId) (t : TypeId) (w : World) :
    (Builtin.max_ ts t #[.float .f64 a, .float .f64 b, .float .f64 c, .float .f64 d, .float .f64 e, .float .f64 f]).run P w = .ok (.float .f64 (mx6 a b c d e f)) w := by
  have m1 := (mx_spec ha hb).2.1
  have m2 := (mx_spec m1 hc).2.1
  have m3 := (mx_spec m2 hd).2.1
  have m4 := (mx_spec m3 he).2.1
  unfold Builtin.max_
  simp only [List.foldlM_cons, List.foldlM_nil, Sem.run_bind, run_max2 ha hb, run_max2 m1 hc, run_max2 m2 hd, run_max2 m3 he, run_max2 m4 hf, Result.andThen_ok]
  rfl
theorem mx6_spec {a b c d e f : Nat} {k : Int} (ha : Mg a k) (hb : Mg b k) (hc : Mg c k) (hd : Mg d k) (he : Mg e k) (hf : Mg f k) :
    Mg (mx6 a b c d e f) k ∧ ev a ≤ ev (mx6 a b c d e f) ∧ ev b ≤ ev (mx6 a b c d e f) ∧ ev c ≤ ev (mx6 a b c d e f) ∧ ev d ≤ ev (mx6 a b c d e f) ∧ ev e ≤ ev (mx6 a b c d e f) ∧ ev f ≤ ev (mx6 a b c d e f) := by
  have st : ∀ {x y : Nat}, Mg x k → Mg y k → Mg (mx x y) k ∧ ev x ≤ ev (mx x y) ∧ ev y ≤ ev (mx x y) := by
    intro x y hx hy
    obtain ⟨h1, _, h3, h4⟩ := mx_spec hx.1.not_nan hy.1.not_nan
    refine ⟨?_, h3, h4⟩
    rcases h1 with h | h <;> rw [h] <;> assumption
  obtain ⟨m1, p1, q1⟩ := st ha hb
  obtain ⟨m2, p2, q2⟩ := st m1 hc
  obtain ⟨m3, p3, q3⟩ := st m2 hd
  obtain ⟨m4, p4, q4⟩ := st m3 he
  obtain ⟨m5, p5, q5⟩ := st m4 hf
  unfold mx6
  exact ⟨m5, by grind, by grind, by grind, by grind, by grind, q5⟩
end Lk
