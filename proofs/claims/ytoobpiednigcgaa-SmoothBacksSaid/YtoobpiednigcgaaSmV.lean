import Derived.Test.YtoobpiednigcgaaSmQ
import Derived.Test.YtoobpiednigcgaaFlY
set_option autoImplicit false
set_option linter.unusedVariables false
namespace Go.Proofs.Ytoobpiednigcgaa
open Go.RowKit Lk
/-! whole numbers on a line: what the line and the turns tell -/
def sI (f : Nat → Int) : Nat → Int
  | 0 => 0
  | k + 1 => sI f k + f k
theorem sI_abs {f : Nat → Int} {n K : Nat} (h : ∀ i, i < n → (f i).natAbs ≤ K) : ∀ k, k ≤ n → (sI f k).natAbs ≤ k * K
  | 0, _ => by simp [sI]
  | k + 1, hk => by
    have h1 := sI_abs h k (by omega)
    have h2 := h k (by omega)
    rw [sI, Nat.add_mul]
    omega
theorem getD_some {l : List Nat} {k : Nat} (h : k < l.length) : l[k]? = some (l.getD k 0) := by
  rw [List.getD_eq_getElem?_getD, List.getElem?_eq_getElem h]; rfl
theorem addV {l : List Nat} {f : Nat → Int} {n K : Nat} (hl : l.length = n) (hv : ∀ i, i < n → V (l.getD i 0) (f i)) (hb : ∀ i, i < n → (f i).natAbs ≤ K) (hK : n * K ≤ 2 ^ 53) :
    ∀ k, 1 ≤ k → k ≤ n → V (addL (l.take k)) (sI f k)
  | 0, h, _ => by omega
  | 1, _, h1 => by
    rw [addL_one (getD_some (by omega))]
    have := hv 0 (by omega)
    simpa [sI] using this
  | k + 2, _, hk => by
    have h1 := addV hl hv hb hK (k + 1) (by omega) (by omega)
    rw [addL_take (getD_some (by omega)) (by omega), sI]
    refine h1.add (hv _ (by omega)) ?_
    have h2 := sI_abs hb (k + 2) hk
    have h3 : (k + 2) * K ≤ n * K := Nat.mul_le_mul_right _ hk
    rw [sI] at h2
    exact Nat.le_trans h2 (Nat.le_trans h3 hK)
theorem sI_line (a h : Int) : ∀ k : Nat, 2 * sI (fun i => a + (i : Int) * h) k = (k : Int) * (2 * a + ((k : Int) - 1) * h)
  | 0 => by simp [sI]
  | k + 1 => by
    have h1 := sI_line a h k
    rw [sI]
    rw [Int.natCast_add]
    grind
theorem sI_mid (a h : Int) (p : Nat) : sI (fun i => a + (i : Int) * h) (2 * p + 1) = (2 * (p : Int) + 1) * (a + p * h) := by
  have := sI_line a h (2 * p + 1)
  have e : ((2 * p + 1 : Nat) : Int) = 2 * (p : Int) + 1 := by omega
  rw [e] at this
  grind
theorem sI_mul (c : Int) (f : Nat → Int) : ∀ k, sI (fun i => c * f i) k = c * sI f k
  | 0 => by simp [sI]
  | k + 1 => by rw [sI, sI, sI_mul c f k, Int.mul_add]
theorem sI_pos {f : Nat → Int} (h : ∀ i, 0 ≤ f i) (h0 : 0 < f 0) : ∀ k, 1 ≤ k → 0 < sI f k
  | 0, h1 => by omega
  | 1, _ => by simpa [sI] using h0
  | k + 2, _ => by
    have h1 := sI_pos h h0 (k + 1) (by omega)
    have h2 := h (k + 1)
    rw [sI]; omega
end Go.Proofs.Ytoobpiednigcgaa
