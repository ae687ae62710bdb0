import Derived.Test.YtdngkeefbpffcaaFlW
import Derived.Laws.BitsAllLaws
set_option autoImplicit false
namespace Lk
open Ieee Go

theorem fmt64 : FloatKind.f64.format = double := rfl

/-! what a comparison tells -/
theorem o_lt {x y : Nat} : double.order x y = some .lt ↔ ¬ Nan x ∧ ¬ Nan y ∧ ev x < ev y := by
  by_cases hx : Nan x
  · rw [order_nan (.inl hx)]; simp [hx]
  · by_cases hy : Nan y
    · rw [order_nan (.inr hy)]; simp [hy]
    · rw [order_ev hx hy]; unfold cmpR
      simp only [hx, hy, not_false_eq_true, true_and, Option.some.injEq]
      (repeat' split) <;> simp_all
theorem o_gt {x y : Nat} : double.order x y = some .gt ↔ ¬ Nan x ∧ ¬ Nan y ∧ ev y < ev x := by
  by_cases hx : Nan x
  · rw [order_nan (.inl hx)]; simp [hx]
  · by_cases hy : Nan y
    · rw [order_nan (.inr hy)]; simp [hy]
    · rw [order_ev hx hy]; unfold cmpR
      simp only [hx, hy, not_false_eq_true, true_and, Option.some.injEq]
      split
      · have : ¬ ev y < ev x := by grind
        simp [this]
      · split
        · have : ¬ ev y < ev x := by grind
          simp [this]
        · have : ev y < ev x := by grind
          simp [this]
theorem o_eq {x y : Nat} : double.order x y = some .eq ↔ ¬ Nan x ∧ ¬ Nan y ∧ ev x = ev y := by
  by_cases hx : Nan x
  · rw [order_nan (.inl hx)]; simp [hx]
  · by_cases hy : Nan y
    · rw [order_nan (.inr hy)]; simp [hy]
    · rw [order_ev hx hy]; unfold cmpR
      simp only [hx, hy, not_false_eq_true, true_and, Option.some.injEq]
      split
      · have : ¬ ev x = ev y := by grind
        simp [this]
      · split <;> simp_all
theorem o_self {x : Nat} : double.order x x = some .eq ↔ ¬ Nan x := by rw [o_eq]; simp
def clt (x y : Nat) : Bool := double.order x y == some .lt
def cgt (x y : Nat) : Bool := double.order x y == some .gt
def ceq (x y : Nat) : Bool := double.order x y == some .eq
def cle (x y : Nat) : Bool := double.order x y == some .lt || double.order x y == some .eq
def cge (x y : Nat) : Bool := double.order x y == some .gt || double.order x y == some .eq
theorem clt_iff {x y : Nat} : clt x y = true ↔ ¬ Nan x ∧ ¬ Nan y ∧ ev x < ev y := by unfold clt; rw [beq_iff_eq, o_lt]
theorem cgt_iff {x y : Nat} : cgt x y = true ↔ ¬ Nan x ∧ ¬ Nan y ∧ ev y < ev x := by unfold cgt; rw [beq_iff_eq, o_gt]
theorem ceq_iff {x y : Nat} : ceq x y = true ↔ ¬ Nan x ∧ ¬ Nan y ∧ ev x = ev y := by unfold ceq; rw [beq_iff_eq, o_eq]
theorem cle_iff {x y : Nat} : cle x y = true ↔ ¬ Nan x ∧ ¬ Nan y ∧ ev x ≤ ev y := by
  unfold cle; rw [Bool.or_eq_true, beq_iff_eq, beq_iff_eq, o_lt, o_eq]
  constructor
  · rintro (⟨a, b, c⟩ | ⟨a, b, c⟩) <;> exact ⟨a, b, by grind⟩
  · rintro ⟨a, b, c⟩
    by_cases h : ev x = ev y
    · exact .inr ⟨a, b, h⟩
    · exact .inl ⟨a, b, by grind⟩
theorem cge_iff {x y : Nat} : cge x y = true ↔ ¬ Nan x ∧ ¬ Nan y ∧ ev y ≤ ev x := by
  unfold cge; rw [Bool.or_eq_true, beq_iff_eq, beq_iff_eq, o_gt, o_eq]
  constructor
  · rintro (⟨a, b, c⟩ | ⟨a, b, c⟩) <;> exact ⟨a, b, by grind⟩
  · rintro ⟨a, b, c⟩
    by_cases h : ev x = ev y
    · exact .inr ⟨a, b, h⟩
    · exact .inl ⟨a, b, by grind⟩
theorem cgt_is {a A b B : Nat} (ha : Is a A) (hb : Is b B) : cgt a b = cgt A B := by unfold cgt; rw [is_order ha hb]
theorem clt_is {a A b B : Nat} (ha : Is a A) (hb : Is b B) : clt a b = clt A B := by unfold clt; rw [is_order ha hb]
theorem ceq_is {a A b B : Nat} (ha : Is a A) (hb : Is b B) : ceq a b = ceq A B := by unfold ceq; rw [is_order ha hb]
theorem cle_is {a A b B : Nat} (ha : Is a A) (hb : Is b B) : cle a b = cle A B := by unfold cle; rw [is_order ha hb]
theorem cge_is {a A b B : Nat} (ha : Is a A) (hb : Is b B) : cge a b = cge A B := by unfold cge; rw [is_order ha hb]

/-! the ends -/
def MAXF : Nat := 9218868437227405311
def NMAXF : Nat := 18442240474082181119
theorem ev_max : ev MAXF = mg (INF - 1) := by
  have h1 : sgn MAXF = false := by decide +kernel
  have h2 : rg MAXF = INF - 1 := by decide +kernel
  unfold ev; rw [h1, h2]; rfl
theorem ev_nmax : ev NMAXF = - mg (INF - 1) := by
  have h1 : sgn NMAXF = true := by decide +kernel
  have h2 : rg NMAXF = INF - 1 := by decide +kernel
  unfold ev; rw [h1, h2]; rfl
theorem fin_iff {x : Nat} : Fin x ↔ ¬ Nan x ∧ ev x ≤ ev MAXF ∧ ev NMAXF ≤ ev x := by
  rw [ev_max, ev_nmax]
  have h0 := mg_nonneg (rg x)
  constructor
  · intro h
    have h1 : rg x ≤ INF - 1 := by unfold Fin at h; omega
    have := mg_le h1
    refine ⟨h.not_nan, ?_⟩
    unfold ev sv; split <;> constructor <;> grind
  · rintro ⟨h1, h2, h3⟩
    rcases not_nan h1 with h | h
    · exact h
    · have h4 := mg_lt (r := INF - 1) (s := INF) (by unfold INF; omega)
      rw [mg_inf] at h4
      rw [ev_inf h] at h2 h3
      unfold sv at h2 h3
      exfalso; split at h2 <;> grind

theorem is_fin {x X : Nat} (h : Is x X) : Fin x ↔ Fin X := by
  rcases h with ⟨a, b⟩ | ⟨rfl, _⟩
  · unfold Nan at a b; unfold Fin; omega
  · exact Iff.rfl
theorem is_inf {x X : Nat} (h : Is x X) : Inf x ↔ Inf X := by
  rcases h with ⟨a, b⟩ | ⟨rfl, _⟩
  · unfold Nan at a b; unfold Inf; omega
  · exact Iff.rfl

/-! the sign bit -/
def fabs (x : Nat) : Nat := rg x
theorem rg_rg (x : Nat) : rg (rg x) = rg x := by unfold rg SGN; omega
theorem nan_fabs {x : Nat} : Nan (fabs x) ↔ Nan x := by unfold Nan fabs; rw [rg_rg]
theorem is_fabs {x X : Nat} (h : Is x X) : Is (fabs x) (fabs X) := by
  rcases h with ⟨a, b⟩ | ⟨rfl, _⟩
  · exact .inl ⟨nan_fabs.2 a, nan_fabs.2 b⟩
  · exact Is.refl _
theorem sgn_fabs (x : Nat) : sgn (fabs x) = false := by
  unfold sgn fabs rg SGN
  have : x % 9223372036854775808 / 9223372036854775808 % 2 = 0 := by omega
  rw [this]; rfl
theorem ev_fabs (x : Nat) : ev (fabs x) = (ev x).abs := by
  unfold ev; rw [sgn_fabs, show rg (fabs x) = rg x from rg_rg x, sv_abs _ _ (mg_nonneg _)]; rfl
theorem fabs_lt (x : Nat) : fabs x < 2 ^ 64 := by unfold fabs rg SGN; omega
theorem fin_fabs {x : Nat} : Fin (fabs x) ↔ Fin x := by unfold Fin fabs; rw [rg_rg]
theorem inf_fabs {x : Nat} : Inf (fabs x) ↔ Inf x := by unfold Inf fabs; rw [rg_rg]
theorem andNot_sign {x : Nat} (h : x < 2 ^ 64) : (bits BinOp.andNot IntKind.u64 (x : Int) 9223372036854775808).toNat = fabs x := by
  have e := u64_andNot_nat x 9223372036854775808 h (by decide)
  have e2 : ((9223372036854775808 : Nat) : Int) = 9223372036854775808 := rfl
  rw [e2] at e
  rw [e, Int.toNat_natCast]
  have e3 : (18446744073709551615 - 9223372036854775808 : Nat) = 2 ^ 63 - 1 := by decide
  rw [e3, Nat.and_two_pow_sub_one_eq_mod]; rfl
/-- is it endless? -/
theorem cgt_max_fabs {x : Nat} : cgt (fabs x) MAXF = decide (Inf x) := by
  rw [Bool.eq_iff_iff, cgt_iff, decide_eq_true_eq]
  constructor
  · rintro ⟨h1, _, h2⟩
    have h1' := fun h => h1 (nan_fabs.2 h)
    rcases not_nan h1' with h | h
    · have := (fin_iff.1 (fin_fabs.2 h)).2.1
      exfalso; grind
    · exact h
  · intro h
    refine ⟨(inf_fabs.2 h).not_nan, by decide +kernel, ?_⟩
    rw [ev_inf (inf_fabs.2 h), sgn_fabs, ev_max, ← mg_inf]
    exact mg_lt (by unfold INF; omega)

/-! the operations on finite ones -/
theorem fadd_fin {x y : Nat} (hx : Fin x) (hy : Fin y) : fadd x y < 2 ^ 64 ∧ ¬ Nan (fadd x y) ∧ ev (fadd x y) = rc (ev x + ev y) ∧
    sgn (fadd x y) = if ev x + ev y = 0 then sgn x && sgn y else decide (ev x + ev y < 0) := by
  obtain ⟨c, h1, h2⟩ := add_fin hx hy
  unfold fadd; rw [h1]; exact h2
theorem fsub_fin {x y : Nat} (hx : Fin x) (hy : Fin y) : fsub x y < 2 ^ 64 ∧ ¬ Nan (fsub x y) ∧ ev (fsub x y) = rc (ev x - ev y) ∧
    sgn (fsub x y) = if ev x - ev y = 0 then sgn x && !sgn y else decide (ev x - ev y < 0) := by
  rw [fsub_eq]
  have := fadd_fin hx (fin_fneg.2 hy)
  rw [ev_fneg, sgn_fneg, show ev x + - ev y = ev x - ev y by grind] at this
  exact this
theorem fmul_fin {x y : Nat} (hx : Fin x) (hy : Fin y) : fmul x y < 2 ^ 64 ∧ ¬ Nan (fmul x y) ∧ ev (fmul x y) = rc (ev x * ev y) ∧ sgn (fmul x y) = (sgn x ^^ sgn y) := by
  obtain ⟨c, h1, h2⟩ := mul_fin hx hy
  unfold fmul; rw [h1]; exact h2
theorem fdiv_fin {x y : Nat} (hx : Fin x) (hy : Fin y) (h0 : ev y ≠ 0) : fdiv x y < 2 ^ 64 ∧ ¬ Nan (fdiv x y) ∧ ev (fdiv x y) = rc (ev x / ev y) ∧ sgn (fdiv x y) = (sgn x ^^ sgn y) := by
  obtain ⟨c, h1, h2⟩ := div_fin hx hy h0
  unfold fdiv; rw [h1]; exact h2
theorem nan_fadd {x y : Nat} (h : Nan x ∨ Nan y) : Nan (fadd x y) := by unfold fadd; rw [add_nan h]; exact nan_qn
theorem nan_fsub {x y : Nat} (h : Nan x ∨ Nan y) : Nan (fsub x y) := by unfold fsub; rw [sub_nan h]; exact nan_qn
theorem nan_fmul {x y : Nat} (h : Nan x ∨ Nan y) : Nan (fmul x y) := by unfold fmul; rw [mul_nan h]; exact nan_qn
theorem nan_fdiv {x y : Nat} (h : Nan x ∨ Nan y) : Nan (fdiv x y) := by unfold fdiv; rw [div_nan h]; exact nan_qn
theorem is_fadd {a b A B : Nat} (ha : Is a A) (hb : Is b B) : fadd a b = fadd A B := by unfold fadd; rw [is_add ha hb]
theorem is_fsub {a b A B : Nat} (ha : Is a A) (hb : Is b B) : fsub a b = fsub A B := by unfold fsub; rw [is_sub ha hb]
theorem is_fmul {a b A B : Nat} (ha : Is a A) (hb : Is b B) : fmul a b = fmul A B := by unfold fmul; rw [is_mul ha hb]
theorem is_fdiv {a b A B : Nat} (ha : Is a A) (hb : Is b B) : fdiv a b = fdiv A B := by unfold fdiv; rw [is_div ha hb]

/-! signs, whatever the operands -/
theorem sgn_fmul {x y : Nat} (h : ¬ Nan (fmul x y)) : sgn (fmul x y) = (sgn x ^^ sgn y) := by
  by_cases hn : Nan x ∨ Nan y
  · exact absurd (nan_fmul hn) h
  · have hx : ¬ Nan x := fun h => hn (.inl h)
    have hy : ¬ Nan y := fun h => hn (.inr h)
    rcases not_nan hx with hx | hx <;> rcases not_nan hy with hy | hy
    · exact (fmul_fin hx hy).2.2.2
    · by_cases h0 : ev x = 0
      · exfalso; apply h; unfold fmul; rw [mul_zero_inf h0 hy]; exact nan_qn
      · unfold fmul; rw [mul_fin_inf hx hy h0]; exact sgn_wd _ (Nat.le_refl _)
    · by_cases h0 : ev y = 0
      · exfalso; apply h; unfold fmul; rw [mul_inf_zero hx h0]; exact nan_qn
      · unfold fmul; rw [mul_inf_fin hx hy h0]; exact sgn_wd _ (Nat.le_refl _)
    · unfold fmul; rw [mul_inf_inf hx hy]; exact sgn_wd _ (Nat.le_refl _)
theorem sgn_fdiv {x y : Nat} (h : ¬ Nan (fdiv x y)) : sgn (fdiv x y) = (sgn x ^^ sgn y) := by
  by_cases hn : Nan x ∨ Nan y
  · exact absurd (nan_fdiv hn) h
  · have hx : ¬ Nan x := fun h => hn (.inl h)
    have hy : ¬ Nan y := fun h => hn (.inr h)
    rcases not_nan hx with hx | hx <;> rcases not_nan hy with hy | hy
    · by_cases h0 : ev y = 0
      · by_cases h1 : ev x = 0
        · exfalso; apply h; unfold fdiv; rw [div_zero_zero h1 h0]; exact nan_qn
        · unfold fdiv; rw [div_zero hx h1 h0]; exact sgn_wd _ (Nat.le_refl _)
      · exact (fdiv_fin hx hy h0).2.2.2
    · unfold fdiv; rw [div_fin_inf hx hy]; exact sgn_wd _ (by unfold INF; omega)
    · unfold fdiv; rw [div_inf_fin hx hy]; exact sgn_wd _ (Nat.le_refl _)
    · exfalso; apply h; unfold fdiv; rw [div_inf_inf hx hy]; exact nan_qn
theorem ev_nonneg_of_sgn {x : Nat} (h : sgn x = false) : 0 ≤ ev x := by unfold ev; rw [h]; exact mg_nonneg _
theorem ev_nonpos_of_sgn {x : Nat} (h : sgn x = true) : ev x ≤ 0 := by have := mg_nonneg (rg x); unfold ev; rw [h]; simp only [sv, if_true]; grind
theorem is_sgn {x X : Nat} (h : Is x X) (hn : ¬ Nan X) : sgn x = sgn X := by rw [h.eq hn]
theorem inf_ev {x : Nat} (h : Inf x) : ev x = p2 1024 ∨ ev x = -(p2 1024) := by
  rw [ev_inf h]; unfold sv; split
  · exact .inr rfl
  · exact .inl rfl
/-- x + y of numbers not below nought, an infinity among them -/
theorem fadd_nonneg {x y : Nat} (hx : Fin x) (hy : ¬ Nan y) (h0 : 0 ≤ ev y) : ¬ Nan (fadd x y) ∧ ev x ≤ ev (fadd x y) := by
  rcases not_nan hy with hf | hi
  · obtain ⟨_, h2, h3, _⟩ := fadd_fin hx hf
    refine ⟨h2, ?_⟩
    rw [h3]
    have := rc_mono (x := ev x) (y := ev x + ev y) (by grind)
    rwa [rc_ev x hx.not_nan] at this
  · have hP := p2_pos 1024
    have hs : sgn y = false := by
      rcases Bool.eq_false_or_eq_true (sgn y) with h | h
      · rw [ev_inf hi, h] at h0; unfold sv at h0; simp at h0; exfalso; grind
      · exact h
    unfold fadd; rw [add_fin_inf hx hi]
    refine ⟨wd_inf_nan _, ?_⟩
    show ev x ≤ ev (wd (sgn y) INF)
    rw [hs, ev_wd _ (Nat.le_refl _), mg_inf]
    have := ev_fin hx
    unfold sv; simp; grind
end Lk
