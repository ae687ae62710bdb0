import Derived.Test.YtoobpiednigcgaaFlX
set_option autoImplicit false
namespace Lk

/-! layer 18 over words -/
structure St where
  x : Nat
  v : Nat
  pxx : Nat
  pxv : Nat
  pvv : Nat
def St.val (s : St) : Go.Value := .agg #[.float .f64 s.x, .float .f64 s.v, .float .f64 s.pxx, .float .f64 s.pxv, .float .f64 s.pvv]
structure IsS (s S : St) : Prop where
  x : Is s.x S.x
  v : Is s.v S.v
  pxx : Is s.pxx S.pxx
  pxv : Is s.pxv S.pxv
  pvv : Is s.pvv S.pvv
theorem IsS.refl (s : St) : IsS s s := ⟨.refl _, .refl _, .refl _, .refl _, .refl _⟩
theorem IsS.symm {a b : St} (h : IsS a b) : IsS b a := ⟨h.x.symm, h.v.symm, h.pxx.symm, h.pxv.symm, h.pvv.symm⟩
theorem IsS.trans {a b c : St} (h : IsS a b) (k : IsS b c) : IsS a c := ⟨h.x.trans k.x, h.v.trans k.v, h.pxx.trans k.pxx, h.pxv.trans k.pxv, h.pvv.trans k.pvv⟩
structure St.Lt (s : St) : Prop where
  x : s.x < 2 ^ 64
  v : s.v < 2 ^ 64
  pxx : s.pxx < 2 ^ 64
  pxv : s.pxv < 2 ^ 64
  pvv : s.pvv < 2 ^ 64

def abv (x : Nat) : Nat := if cgt x 0 then x else 0
theorem abv_is {x X : Nat} (h : Is x X) : Is (abv x) (abv X) := by
  unfold abv; rw [cgt_is h (Is.refl 0)]; split
  · exact h
  · exact Is.refl _
theorem abv_lt {x : Nat} (h : x < 2 ^ 64) : abv x < 2 ^ 64 := by unfold abv; split <;> omega
def C2 : Nat := 4611686018427387904
def C3 : Nat := 4613937818241073152
def PINF : Nat := 9218868437227405312

def farF (s : St) (x nz : Nat) : Nat :=
  if cgt (fadd s.pxx nz) 0 then fdiv (fmul (fsub x s.x) (fsub x s.x)) (fadd s.pxx nz) else PINF
def aheadF (s : St) (t sway : Nat) : St :=
  if cgt t 0 then
    { x := fadd s.x (fmul s.v t), v := s.v,
      pxx := abv (fadd (fadd (fadd (fadd s.pxx (fmul s.pxv t)) (fmul s.pxv t)) (fmul (fmul s.pvv t) t)) (fdiv (fmul (fmul (fmul sway t) t) t) C3)),
      pxv := fadd (fadd s.pxv (fmul s.pvv t)) (fdiv (fmul (fmul sway t) t) C2),
      pvv := fadd s.pvv (fmul sway t) }
  else s
def seenF (s : St) (x nz : Nat) : St :=
  if cgt (fadd s.pxx nz) 0 then
    { x := fadd s.x (fmul (fdiv s.pxx (fadd s.pxx nz)) (fsub x s.x)),
      v := fadd s.v (fmul (fdiv s.pxv (fadd s.pxx nz)) (fsub x s.x)),
      pxx := if clt (fmul (fdiv s.pxx (fadd s.pxx nz)) nz) s.pxx then fmul (fdiv s.pxx (fadd s.pxx nz)) nz else s.pxx,
      pxv := fmul (fdiv s.pxv (fadd s.pxx nz)) nz,
      pvv := abv (fsub s.pvv (fmul (fdiv s.pxv (fadd s.pxx nz)) s.pxv)) }
  else s
def mayF (s : St) : Bool := decide (Fin s.x) && decide (Fin s.v) && decide (Fin s.pxx) && decide (Fin s.pxv) && decide (Fin s.pvv) && cge s.pxx 0 && cge s.pvv 0

theorem farF_is {s S : St} {x X nz NZ : Nat} (h : IsS s S) (hx : Is x X) (hn : Is nz NZ) : farF s x nz = farF S X NZ := by
  unfold farF
  rw [is_fadd h.pxx hn, is_fsub hx h.x]
theorem aheadF_is {s S : St} {t T q Q : Nat} (h : IsS s S) (ht : Is t T) (hq : Is q Q) : IsS (aheadF s t q) (aheadF S T Q) := by
  unfold aheadF
  rw [cgt_is ht (Is.refl 0)]
  split
  · have e1 := is_fmul h.v ht
    have e2 := is_fmul h.pxv ht
    have e3 := is_fmul h.pvv ht
    have e4 := is_fmul hq ht
    have e5 := is_fmul (Is.refl (fmul Q T)) ht
    have e6 := is_fmul (Is.refl (fmul (fmul Q T) T)) ht
    have e7 := is_fmul (Is.refl (fmul S.pvv T)) ht
    have e8 := is_fadd h.x (Is.refl (fmul S.v T))
    have e9 := is_fadd h.pxx (Is.refl (fmul S.pxv T))
    have e10 := is_fadd h.pxv (Is.refl (fmul S.pvv T))
    have e11 := is_fadd h.pvv (Is.refl (fmul Q T))
    exact ⟨by simp only [e1, e8]; exact Is.refl _, h.v, by simp only [e2, e3, e4, e5, e6, e7, e9]; exact Is.refl _, by simp only [e3, e4, e5, e10]; exact Is.refl _, by simp only [e4, e11]; exact Is.refl _⟩
  · exact h
theorem seenF_is {s S : St} {x X nz NZ : Nat} (h : IsS s S) (hx : Is x X) (hn : Is nz NZ) : IsS (seenF s x nz) (seenF S X NZ) := by
  unfold seenF
  rw [is_fadd h.pxx hn, is_fsub hx h.x]
  split
  · have e1 := is_fdiv h.pxx (Is.refl (fadd S.pxx NZ))
    have e2 := is_fdiv h.pxv (Is.refl (fadd S.pxx NZ))
    have e3 := is_fmul (Is.refl (fdiv S.pxx (fadd S.pxx NZ))) hn
    have e4 := is_fmul (Is.refl (fdiv S.pxv (fadd S.pxx NZ))) hn
    have e5 := is_fmul (Is.refl (fdiv S.pxv (fadd S.pxx NZ))) h.pxv
    refine ⟨?_, ?_, ?_, ?_, ?_⟩
    · simp only [e1]; rw [is_fadd h.x (Is.refl _)]; exact Is.refl _
    · simp only [e2]; rw [is_fadd h.v (Is.refl _)]; exact Is.refl _
    · simp only [e1, e3]; rw [clt_is (Is.refl _) h.pxx]; split
      · exact Is.refl _
      · exact h.pxx
    · simp only [e2, e4]; exact Is.refl _
    · simp only [e2, e5]; rw [is_fsub h.pvv (Is.refl _)]; exact Is.refl _
  · exact h
theorem mayF_is {s S : St} (h : IsS s S) : mayF s = mayF S := by
  unfold mayF
  simp only [is_fin h.x, is_fin h.v, is_fin h.pxx, is_fin h.pxv, is_fin h.pvv, cge_is h.pxx (Is.refl 0), cge_is h.pvv (Is.refl 0)]
/-- SameFloat -/
def sameF (x y : Nat) : Bool := decide ((Nan x ∧ Nan y) ∨ (¬ Nan x ∧ ¬ Nan y ∧ x = y))
theorem sameF_is {x y : Nat} (h : Is x y) : sameF x y = true := by
  unfold sameF; rw [decide_eq_true_eq]
  rcases h with h | ⟨rfl, h⟩
  · exact .inl h
  · exact .inr ⟨h, h, rfl⟩
theorem is_sameF {x y : Nat} (h : sameF x y = true) : Is x y := by
  unfold sameF at h; rw [decide_eq_true_eq] at h
  rcases h with h | ⟨h1, _, h3⟩
  · exact .inl h
  · exact .inr ⟨h3, h1⟩
def sameS (a b : St) : Bool := sameF a.x b.x && sameF a.v b.v && (sameF a.pxx b.pxx && sameF a.pxv b.pxv && sameF a.pvv b.pvv)
theorem sameS_is {a b : St} (h : IsS a b) : sameS a b = true := by
  unfold sameS; rw [sameF_is h.x, sameF_is h.v, sameF_is h.pxx, sameF_is h.pxv, sameF_is h.pvv]; rfl
end Lk
