import Derived.Test.YtgdkmakmdomdbaaFlP
set_option autoImplicit false
set_option linter.unusedVariables false
namespace Lk
open Go Go.RowKit
section
variable {P : Program} {J : World → Prop} {Q : Exit → Act → World → Prop}
/-- wp_region_J, the first world kept -/
theorem wp_region_J1 {id : Nat} {a : Act} {w : World} {l : List Oper} (n : Nat) (J : World → Prop) (hm : P.follows .mixedOrders = true) (hn : l.length = n) (hs : Region.noSelect l.toArray = true) (hJ : J { w with drawn := w.drawn + 1 })
    (h : ∀ w1, Below w.heap.size w w1 → J w1 → Region.noSelect l.toArray = true → wpAnyJ P .any l.toArray J (fun a' w' => Q .normal a' w') n (Array.replicate n false) a w1) : (Code.region id l.toArray true).wp P Q a w := by
  refine wp_region_any hm (wpAny_of_J (J := J) (Q' := fun a' w' => Q .normal a' w') (fun _ _ h => h) _ _ _ _ hJ ?_)
  have := h { w with drawn := w.drawn + 1 } ⟨rfl, rfl, rfl, Nat.le_refl _, fun _ _ => rfl⟩ hJ hs
  subst hn
  simpa using this
end
end Lk
