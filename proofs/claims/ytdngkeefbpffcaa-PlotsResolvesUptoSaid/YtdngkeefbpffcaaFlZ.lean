import Derived.Test.YtdngkeefbpffcaaFlW
set_option autoImplicit false
set_option linter.unusedVariables false
namespace Lk
open Go Go.RowKit
section
variable {P : Program} {ops : Array Oper} {rest : List Oper} {o : Oper} {a : Act} {w : World} {Q : Exit → Act → World → Prop}
/-- a float operation behind a test that lets it be done -/
theorem wpList_floatg {g : Nat × Bool} (hgd : o.guard = some g) {b : BinOp} {t ty : TypeId} {l r : Operand} (ho : o.op = .binOp b t l r ty) (hw : Region.wanted o (yielded ops a.tmps) = true) (hb : arith b = true)
    {x y X Y : Nat} (hl : a.eval l = .float .f64 x) (hr : a.eval r = .float .f64 y) (hx : Is x X) (hy : Is y Y)
    (h : ∀ v n, Is v (fop b X Y) → v < 2 ^ 64 → wpList P ops Q rest (a.put o.dst (.float .f64 v)) (w.drewN n)) : wpList P ops Q (o :: rest) a w := by
  unfold wpList
  rw [if_pos hw]
  left
  obtain ⟨v, n, h1, h2, h3⟩ := run_float_any P w b hb t hx hy
  have hg : Sem.run P (eqGuard b t l r (.float .f64 x) (.float .f64 y)) w = .ok () w := by
    cases b <;> simp only [arith, Bool.false_eq_true] at hb <;> rfl
  unfold Oper.wp execOp
  simp only [ho, hl, hr, Sem.run_bind, hg, h1, Result.andThen_ok, Sem.run_pure]
  exact h v n h2 h3
end
end Lk
