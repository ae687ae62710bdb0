import Derived.Test.YtdngkeefbpffcaaFlF
import Derived.Laws.FloatArith
import Derived.Deep.Draws
import Derived.Tactics2
import Derived.Test.YtdngkeefbpffcaaFlR
import Derived.Below
set_option autoImplicit false
namespace Lk
open Ieee Go

/-- the same float: NaN both, or the same bits -/
def Is (r X : Nat) : Prop := (Nan r ∧ Nan X) ∨ (r = X ∧ ¬ Nan r)
theorem Is.refl (x : Nat) : Is x x := by
  by_cases h : Nan x
  · exact .inl ⟨h, h⟩
  · exact .inr ⟨rfl, h⟩
theorem Is.symm {x y : Nat} (h : Is x y) : Is y x := by
  rcases h with ⟨a, b⟩ | ⟨rfl, a⟩
  · exact .inl ⟨b, a⟩
  · exact .inr ⟨rfl, a⟩
theorem Is.trans {x y z : Nat} (h : Is x y) (h' : Is y z) : Is x z := by
  rcases h with ⟨a, b⟩ | ⟨rfl, a⟩
  · rcases h' with ⟨c, d⟩ | ⟨rfl, c⟩
    · exact .inl ⟨a, d⟩
    · exact absurd b c
  · exact h'
theorem Is.nan {x y : Nat} (h : Is x y) : Nan x ↔ Nan y := by
  rcases h with ⟨a, b⟩ | ⟨rfl, _⟩
  · exact ⟨fun _ => b, fun _ => a⟩
  · exact Iff.rfl
theorem Is.eq {x y : Nat} (h : Is x y) (hn : ¬ Nan y) : x = y := by
  rcases h with ⟨_, b⟩ | ⟨h, _⟩
  · exact absurd b hn
  · exact h

theorem is_op {f : Nat → Nat → Option Nat} (hf : ∀ x y, Nan x ∨ Nan y → f x y = none) {a b A B : Nat} (ha : Is a A) (hb : Is b B) : f a b = f A B := by
  rcases ha with ⟨h1, h2⟩ | ⟨rfl, _⟩
  · rw [hf _ _ (.inl h1), hf _ _ (.inl h2)]
  · rcases hb with ⟨h1, h2⟩ | ⟨rfl, _⟩
    · rw [hf _ _ (.inr h1), hf _ _ (.inr h2)]
    · rfl
theorem sub_nan {x y : Nat} (h : Nan x ∨ Nan y) : double.sub x y = none := by
  rw [sub_eq]; exact add_nan (h.imp id nan_fneg.2)
theorem is_add {a b A B : Nat} (ha : Is a A) (hb : Is b B) : double.add a b = double.add A B := is_op (fun _ _ => add_nan) ha hb
theorem is_sub {a b A B : Nat} (ha : Is a A) (hb : Is b B) : double.sub a b = double.sub A B := is_op (fun _ _ => sub_nan) ha hb
theorem is_mul {a b A B : Nat} (ha : Is a A) (hb : Is b B) : double.mul a b = double.mul A B := is_op (fun _ _ => mul_nan) ha hb
theorem is_div {a b A B : Nat} (ha : Is a A) (hb : Is b B) : double.div a b = double.div A B := is_op (fun _ _ => div_nan) ha hb
theorem is_order {a b A B : Nat} (ha : Is a A) (hb : Is b B) : double.order a b = double.order A B := by
  rcases ha with ⟨h1, h2⟩ | ⟨rfl, _⟩
  · rw [order_nan (.inl h1), order_nan (.inl h2)]
  · rcases hb with ⟨h1, h2⟩ | ⟨rfl, _⟩
    · rw [order_nan (.inr h1), order_nan (.inr h2)]
    · rfl

theorem nan_cut (x y t : Nat) : Nan ((Question.nanBits .f64 x y).cut t) ∧ (Question.nanBits .f64 x y).cut t < 2 ^ 64 := by
  simp only [Question.cut]
  have h1 : t / 2 % (2 ^ 52 - 1) < 2 ^ 52 - 1 := Nat.mod_lt _ (by decide)
  have h2 : t % 2 < 2 := Nat.mod_lt _ (by decide)
  generalize t / 2 % (2 ^ 52 - 1) = u at *
  generalize t % 2 = v at *
  unfold Nan INF rg SGN
  omega

/-- the operations by name -/
def fop (b : BinOp) (x y : Nat) : Nat :=
  match b with
  | .add => fadd x y
  | .sub => fsub x y
  | .mul => fmul x y
  | .quo => fdiv x y
  | _ => 0
def arith : BinOp → Bool
  | .add | .sub | .mul | .quo => true
  | _ => false

theorem some_lt {b : BinOp} {x y r : Nat} (h : floatBits b .f64 x y = some r) : r < 2 ^ 64 := by
  have := floatBits_wf h
  simpa [Lit.wf] using this

theorem nan_none_add {x y r : Nat} (h : double.add x y = some r) : ¬ Nan r := by
  by_cases hn : Nan x ∨ Nan y
  · rw [add_nan hn] at h; cases h
  · have hx : ¬ Nan x := fun h => hn (.inl h)
    have hy : ¬ Nan y := fun h => hn (.inr h)
    rcases not_nan hx with hx | hx <;> rcases not_nan hy with hy | hy
    · obtain ⟨c, h1, _, h3, _⟩ := add_fin hx hy
      rw [h1] at h; cases h; exact h3
    · rw [add_fin_inf hx hy] at h; cases h; exact wd_inf_nan _
    · rw [add_inf_fin hx hy] at h; cases h; exact wd_inf_nan _
    · rw [add_inf_inf hx hy] at h; split at h <;> cases h; exact wd_inf_nan _
theorem nan_none_mul {x y r : Nat} (h : double.mul x y = some r) : ¬ Nan r := by
  by_cases hn : Nan x ∨ Nan y
  · rw [mul_nan hn] at h; cases h
  · have hx : ¬ Nan x := fun h => hn (.inl h)
    have hy : ¬ Nan y := fun h => hn (.inr h)
    rcases not_nan hx with hx | hx <;> rcases not_nan hy with hy | hy
    · obtain ⟨c, h1, _, h3, _⟩ := mul_fin hx hy
      rw [h1] at h; cases h; exact h3
    · by_cases h0 : ev x = 0
      · rw [mul_zero_inf h0 hy] at h; cases h
      · rw [mul_fin_inf hx hy h0] at h; cases h; exact wd_inf_nan _
    · by_cases h0 : ev y = 0
      · rw [mul_inf_zero hx h0] at h; cases h
      · rw [mul_inf_fin hx hy h0] at h; cases h; exact wd_inf_nan _
    · rw [mul_inf_inf hx hy] at h; cases h; exact wd_inf_nan _
theorem wd_zero_nan (s : Bool) : ¬ Nan (wd s 0) := by unfold Nan; rw [rg_wd s (by unfold INF; omega)]; unfold INF; omega
theorem nan_none_div {x y r : Nat} (h : double.div x y = some r) : ¬ Nan r := by
  by_cases hn : Nan x ∨ Nan y
  · rw [div_nan hn] at h; cases h
  · have hx : ¬ Nan x := fun h => hn (.inl h)
    have hy : ¬ Nan y := fun h => hn (.inr h)
    rcases not_nan hx with hx | hx <;> rcases not_nan hy with hy | hy
    · by_cases h0 : ev y = 0
      · by_cases h1 : ev x = 0
        · rw [div_zero_zero h1 h0] at h; cases h
        · rw [div_zero hx h1 h0] at h; cases h; exact wd_inf_nan _
      · obtain ⟨c, h1, _, h3, _⟩ := div_fin hx hy h0
        rw [h1] at h; cases h; exact h3
    · rw [div_fin_inf hx hy] at h; cases h; exact wd_zero_nan _
    · rw [div_inf_fin hx hy] at h; cases h; exact wd_inf_nan _
    · rw [div_inf_inf hx hy] at h; cases h

theorem getD_is {o : Option Nat} {r : Nat} (h : o = some r) (hn : ¬ Nan r) : Is r (o.getD qn) := by subst h; exact .inr ⟨rfl, hn⟩

/-- a float operation in any world: some word that is the operation's, the world but for draws as it was -/
theorem run_float_any (P : Program) (w : World) (b : BinOp) (hb : arith b = true) (t : TypeId) {x y X Y : Nat} (hx : Is x X) (hy : Is y Y) :
    ∃ r n, (binOp b t (.float .f64 x) (.float .f64 y)).run P w = .ok (.float .f64 r) (w.drewN n) ∧ Is r (fop b X Y) ∧ r < 2 ^ 64 := by
  have key : ∀ o : Option Nat, floatBits b .f64 x y = o → (∀ r, o = some r → ¬ Nan r) → fop b X Y = o.getD qn →
      ∃ r n, (binOp b t (.float .f64 x) (.float .f64 y)).run P w = .ok (.float .f64 r) (w.drewN n) ∧ Is r (fop b X Y) ∧ r < 2 ^ 64 := by
    intro o ho hn hf
    cases o with
    | some r =>
      exact ⟨r, 0, run_float_arith w b t .f64 x y r ho, by rw [hf]; exact .inr ⟨rfl, hn r rfl⟩, some_lt ho⟩
    | none =>
      refine ⟨(Question.nanBits .f64 x y).cut (w.tape w.drawn (.nanBits .f64 x y)), 1, ?_, ?_, (nan_cut x y _).2⟩
      · unfold floatBits at ho
        cases b <;> simp only [arith, Bool.false_eq_true] at hb <;> simp only at ho <;>
          simp [binOp, Op.floatArith, ho, choose, Sem.run, Question.forced, World.drewN]
      · rw [hf]; exact .inl ⟨(nan_cut x y _).1, nan_qn⟩
  cases b <;> simp only [arith, Bool.false_eq_true] at hb
  · exact key _ (is_add hx hy) (fun r => nan_none_add) rfl
  · exact key _ (is_sub hx hy) (fun r h => nan_none_add (by rw [← sub_eq]; exact h)) rfl
  · exact key _ (is_mul hx hy) (fun r => nan_none_mul) rfl
  · exact key _ (is_div hx hy) (fun r => nan_none_div) rfl

/-! the walk's step -/
section
variable {P : Program} {ops rest : _} {o : Oper} {a : Act} {w : World} {Q : Exit → Act → World → Prop}
theorem wpList_float (hgd : o.guard = none) {b : BinOp} {t ty : TypeId} {l r : Operand} (ho : o.op = .binOp b t l r ty) (hb : arith b = true)
    {x y X Y : Nat} (hl : a.eval l = .float .f64 x) (hr : a.eval r = .float .f64 y) (hx : Is x X) (hy : Is y Y)
    (h : ∀ v n, Is v (fop b X Y) → v < 2 ^ 64 → wpList P ops Q rest (a.put o.dst (.float .f64 v)) (w.drewN n)) : wpList P ops Q (o :: rest) a w := by
  refine wpList_plain hgd fun K hK => ?_
  obtain ⟨v, n, h1, h2, h3⟩ := run_float_any P w b hb t hx hy
  have hg : Sem.run P (eqGuard b t l r (.float .f64 x) (.float .f64 y)) w = .ok () w := by
    cases b <;> simp only [arith, Bool.false_eq_true] at hb <;> rfl
  unfold Oper.wp execOp
  simp only [ho, hl, hr, Sem.run_bind, hg, h1, Result.andThen_ok, Sem.run_pure]
  exact hK _ _ (h v n h2 h3)
end

/-! regions whose order is open: two classes of worlds -/
section
variable {P : Program} {ops : Array Oper} {T : FuncId → Array Value → Value → Prop} {W : World}
abbrev DrewC (W : World) : World → Prop := fun w' => ∃ n, w' = W.drewN n
theorem wp_region_drew {id : Nat} {Q : Exit → Act → World → Prop} {a : Act} {w : World} {l : List Oper} (T : FuncId → Array Value → Value → Prop) (hm : P.follows .mixedOrders = true) (hB : Region.lexB .any l.toArray = true)
    (h : wpSet P l.toArray (DrewC w) T (fun a' => ∀ n, Q .normal a' (w.drewN n)) l a) : (Code.region id l.toArray true).wp P Q a w :=
  wp_region_set (DrewC w) T hm hB ⟨1, rfl⟩ (by
    have e : (fun a' : Act => ∀ w', DrewC w w' → Q .normal a' w') = (fun a' => ∀ n, Q .normal a' (w.drewN n)) := by
      funext a'; apply propext
      exact ⟨fun h n => h _ ⟨n, rfl⟩, fun h w' ⟨n, hn⟩ => hn ▸ h n⟩
    rw [e]; exact h)
theorem wp_region_drew_tail {id : Nat} {Q : Exit → Act → World → Prop} {a : Act} {w : World} {l : List Oper} (n : Nat) (T : FuncId → Array Value → Value → Prop) (hm : P.follows .mixedOrders = true) (hB : Region.lexTailB .any l.toArray n = true)
    (h : wpSet P l.toArray (DrewC w) T (fun a' => ∀ m, wpList P l.toArray Q (l.drop n) a' (w.drewN m)) (l.take n) a) : (Code.region id l.toArray true).wp P Q a w :=
  wp_region_set_tail n (DrewC w) T hm hB ⟨1, rfl⟩ (by
    have e : (fun a' : Act => ∀ w', DrewC w w' → wpList P l.toArray Q (l.drop n) a' w') = (fun a' => ∀ m, wpList P l.toArray Q (l.drop n) a' (w.drewN m)) := by
      funext a'; apply propext
      exact ⟨fun h n => h _ ⟨n, rfl⟩, fun h w' ⟨n, hn⟩ => hn ▸ h n⟩
    rw [e]; exact h)
theorem drew_value {o : Oper} {a : Act} {K : Act → Prop} {v : Value} (h : ∀ n, (execOp a.eval o).run P (W.drewN n) = .ok (.value v) (W.drewN n)) (hk : K (a.put o.dst v)) : both P (DrewC W) T o a K :=
  both_value (fun w ⟨n, hn⟩ => by subst hn; exact h n) hk
theorem drew_float {o : Oper} {a : Act} {K : Act → Prop} {b : BinOp} {t ty : TypeId} {l r : Operand} (ho : o.op = .binOp b t l r ty)
    {x y X Y : Nat} (hb : arith b = true) (hl : a.eval l = .float .f64 x) (hr : a.eval r = .float .f64 y) (hx : Is x X) (hy : Is y Y)
    (hk : ∀ v, Is v (fop b X Y) → v < 2 ^ 64 → K (a.put o.dst (.float .f64 v))) : both P (DrewC W) T o a K := by
  refine both_values (S := fun u => ∃ v, u = .float .f64 v ∧ Is v (fop b X Y) ∧ v < 2 ^ 64) ?_ (fun u ⟨v, hu, h1, h2⟩ => hu ▸ hk v h1 h2)
  rintro w ⟨n, rfl⟩
  obtain ⟨v, m, h1, h2, h3⟩ := run_float_any P (W.drewN n) b hb t hx hy
  refine ⟨.float .f64 v, (W.drewN n).drewN m, ?_, ⟨v, rfl, h2, h3⟩, ⟨n + m, by rw [World.drewN_drewN]⟩⟩
  have hg : Sem.run P (eqGuard b t l r (.float .f64 x) (.float .f64 y)) (W.drewN n) = .ok () (W.drewN n) := by
    cases b <;> simp only [arith, Bool.false_eq_true] at hb <;> rfl
  unfold execOp
  simp only [ho, hl, hr, Sem.run_bind, hg, h1, Result.andThen_ok, Sem.run_pure]
theorem drew_call {o : Oper} {a : Act} {K : Act → Prop} {f : FuncId} {args : Array Value} (h : ∀ n, (execOp a.eval o).run P (W.drewN n) = .ok (.enter f args) (W.drewN n))
    (hc : ∀ n, Calls P f args (W.drewN n) (fun e w'' => ∃ u, e = .returned u ∧ T f args u ∧ ∃ m, w'' = W.drewN m)) (hk : ∀ u, T f args u → K (a.put o.dst u)) : both P (DrewC W) T o a K :=
  both_call (fun w ⟨n, hn⟩ => by subst hn; exact h n) (fun w ⟨n, hn⟩ => by subst hn; exact hc n) hk
end

section
open Go.RowKit
variable {P : Program} {ops : Array Oper} {T : FuncId → Array Value → Value → Prop} {W : World}
abbrev BelowC (W : World) : World → Prop := fun w' => Below W.heap.size W w'
theorem belowC_drew (w : World) : BelowC w { w with drawn := w.drawn + 1 } := (Below.refl _ w).drew
theorem wp_region_below {id : Nat} {Q : Exit → Act → World → Prop} {a : Act} {w : World} {l : List Oper} (T : FuncId → Array Value → Value → Prop) (hm : P.follows .mixedOrders = true) (hB : Region.lexB .any l.toArray = true)
    (h : wpSet P l.toArray (BelowC w) T (fun a' => ∀ w', Below w.heap.size w w' → Q .normal a' w') l a) : (Code.region id l.toArray true).wp P Q a w :=
  wp_region_set (BelowC w) T hm hB (belowC_drew w) h
theorem wp_region_below_tail {id : Nat} {Q : Exit → Act → World → Prop} {a : Act} {w : World} {l : List Oper} (n : Nat) (T : FuncId → Array Value → Value → Prop) (hm : P.follows .mixedOrders = true) (hB : Region.lexTailB .any l.toArray n = true)
    (h : wpSet P l.toArray (BelowC w) T (fun a' => ∀ w', Below w.heap.size w w' → wpList P l.toArray Q (l.drop n) a' w') (l.take n) a) : (Code.region id l.toArray true).wp P Q a w :=
  wp_region_set_tail n (BelowC w) T hm hB (belowC_drew w) h
theorem below_value {o : Oper} {a : Act} {K : Act → Prop} {v : Value} (h : ∀ w', (∀ b i, b < W.heap.size → w'.cell? ⟨b, i, none⟩ = W.cell? ⟨b, i, none⟩) → (execOp a.eval o).run P w' = .ok (.value v) w') (hk : K (a.put o.dst v)) : both P (BelowC W) T o a K :=
  both_value (fun w hw => h w (fun b i hb => hw.cell (p := ⟨b, i, none⟩) hb)) hk
theorem below_float {o : Oper} {a : Act} {K : Act → Prop} {b : BinOp} {t ty : TypeId} {l r : Operand} (ho : o.op = .binOp b t l r ty)
    {x y X Y : Nat} (hb : arith b = true) (hl : a.eval l = .float .f64 x) (hr : a.eval r = .float .f64 y) (hx : Is x X) (hy : Is y Y)
    (hk : ∀ v, Is v (fop b X Y) → v < 2 ^ 64 → K (a.put o.dst (.float .f64 v))) : both P (BelowC W) T o a K := by
  refine both_values (S := fun u => ∃ v, u = .float .f64 v ∧ Is v (fop b X Y) ∧ v < 2 ^ 64) ?_ (fun u ⟨v, hu, h1, h2⟩ => hu ▸ hk v h1 h2)
  intro w hw
  obtain ⟨v, m, h1, h2, h3⟩ := run_float_any P w b hb t hx hy
  refine ⟨.float .f64 v, w.drewN m, ?_, ⟨v, rfl, h2, h3⟩, hw.trans ⟨rfl, rfl, rfl, Nat.le_refl _, fun _ _ => rfl⟩⟩
  have hg : Sem.run P (eqGuard b t l r (.float .f64 x) (.float .f64 y)) w = .ok () w := by
    cases b <;> simp only [arith, Bool.false_eq_true] at hb <;> rfl
  unfold execOp
  simp only [ho, hl, hr, Sem.run_bind, hg, h1, Result.andThen_ok, Sem.run_pure]
theorem below_call {o : Oper} {a : Act} {K : Act → Prop} {f : FuncId} {args : Array Value} (h : ∀ w', (execOp a.eval o).run P w' = .ok (.enter f args) w')
    (hc : ∀ w', Calls P f args w' (fun e w'' => ∃ u, e = .returned u ∧ T f args u ∧ Below w'.heap.size w' w'')) (hk : ∀ u, T f args u → K (a.put o.dst u)) : both P (BelowC W) T o a K :=
  both_call (fun w _ => h w) (fun w hw => (hc w).mono fun _ _ ⟨u, he, ht, hb⟩ => ⟨u, he, ht, hw.trans (hb.mono hw.size)⟩) hk
end
end Lk
namespace Go
section
variable (P : Program) (w : World) (a : Addr) (m : Mode)
@[go_sem] theorem run_store_float_lk (k : FloatKind) (n : Nat) : (store a (.float k n) m).run P w = stored P w a (.float k n) m := run_store P w a _ m rfl
@[go_sem] theorem run_store_complex_lk (k : FloatKind) (x y : Nat) : (store a (.complex k x y) m).run P w = stored P w a (.complex k x y) m := run_store P w a _ m rfl
@[go_sem] theorem World.setCell_drewN_lk (n : Nat) (v : Value) : (w.drewN n).setCell a v = (w.setCell a v).drewN n := rfl
theorem run_equalIn_float {P : Program} (d : Nat) {t : TypeId} {k : FloatKind} (x y : Nat) (w : World) (ht : P.underlying t = some (.float k)) : (Op.equalIn (d + 1) t (.float k x) (.float k y)).run P w = .ok (k.format.order x y == some .eq) w := by
  simp [Op.equalIn, run_underlying ht, Op.floatEq]
end
end Go
