/-
  What is proved: for every state and every row of steps the law StateSteps returns true, and its arguments read as before. No conditions.
-/
import Derived.Test.YtjpddkojclgkmaaStK
import Derived.Test.YtjpddkojclgkmaaStE
import Derived.Test.YtjpddkojclgkmaaStC
import Derived.Test.YtjpddkojclgkmaaFlG
import Derived.Test.YtjpddkojclgkmaaFlS
import Derived.Test.YtjpddkojclgkmaaRows
import Derived.ProofKit
import Derived.OpenShut
import Derived.WalkKit
import Derived.WalkLawsBesides
import Derived.WalkSpells
import Derived.BigQuiet
import Derived.Lib.Hide
import Derived.Outline
import Derived.LoopTactic
set_option autoImplicit false
set_option linter.unusedVariables false
namespace Go.Proofs.Ytjpddkojclgkmaa
open Go.RowKit Go.ChangeShapes Go.WideShapes Go.ChangeAt Lk

theorem Try.own : ownKnob Try.prog.godebug = none := by kernel_rfl
theorem Try.laidOut : laidOutB Try.prog = true := by kernel_rfl

theorem wp_forget {P : Program} {c : Code} {Q : Exit → Act → World → Prop} {a : Act} {w : World} (F : World → Prop) (h : F w) (k : ∀ w1, F w1 → Code.wp P c Q a w1) : Code.wp P c Q a w := k w h

/-- what the calls of the law hand back -/
structure TT (s S : St) (x y : Nat) (f : FuncId) (args : Array Value) (u : Value) (w : World) : Prop where
  a : f = 11 → ∃ r, u = .float .f64 r ∧ Is r (farF s x y)
  b : f = 12 → ∃ r, u = .float .f64 r ∧ Is r (farF S x y)
  c : f = 10 → ∀ r q, args = #[.float .f64 r, .float .f64 q] → u = .bool (sameF r q)
  d : f = 13 → u = .bool (mayF s)
  e : f = 14 → u = .bool (mayF S)
  g : f = 20 → u = .bool true
theorem tt_a {a b c d f x y : Nat} {S : St} (w : World) : Calls Try.prog 11 #[stv a b c d f, .float .f64 x, .float .f64 y] w (fun e w'' => ∃ u, e = .returned u ∧ TT ⟨a, b, c, d, f⟩ S x y 11 #[stv a b c d f, .float .f64 x, .float .f64 y] u w'' ∧ Ext w w'') :=
  (far_walk _ _ _ _ _ _ _ w).mono fun e w' ⟨r, he, hr, hb⟩ => ⟨_, he, ⟨fun _ => ⟨r, rfl, hr⟩, (fun h => absurd h (by decide)), (fun h => absurd h (by decide)), (fun h => absurd h (by decide)), (fun h => absurd h (by decide)), fun h => absurd h (by decide)⟩, hb⟩
theorem tt_b {a b c d f x y : Nat} {s : St} (w : World) : Calls Try.prog 12 #[stv a b c d f, .float .f64 x, .float .f64 y] w (fun e w'' => ∃ u, e = .returned u ∧ TT s ⟨a, b, c, d, f⟩ x y 12 #[stv a b c d f, .float .f64 x, .float .f64 y] u w'' ∧ Ext w w'') :=
  (rfar_walk _ _ _ _ _ _ _ w).mono fun e w' ⟨r, he, hr, hb⟩ => ⟨_, he, ⟨(fun h => absurd h (by decide)), fun _ => ⟨r, rfl, hr⟩, (fun h => absurd h (by decide)), (fun h => absurd h (by decide)), (fun h => absurd h (by decide)), fun h => absurd h (by decide)⟩, hb⟩
theorem tt_c {s S : St} {x y r q : Nat} (w : World) : Calls Try.prog 10 #[.float .f64 r, .float .f64 q] w (fun e w'' => ∃ u, e = .returned u ∧ TT s S x y 10 #[.float .f64 r, .float .f64 q] u w'' ∧ Ext w w'') :=
  (samefloat_walk r q w).mono fun e w' ⟨he, hw⟩ => ⟨_, he, ⟨(fun h => absurd h (by decide)), (fun h => absurd h (by decide)), fun _ r' q' h => by simp only [Array.mk.injEq, List.cons.injEq, Value.float.injEq, true_and, and_true] at h; rw [h.1, h.2], (fun h => absurd h (by decide)), (fun h => absurd h (by decide)), fun h => absurd h (by decide)⟩, hw ▸ Ext.refl w⟩
theorem tt_d {a b c d f x y : Nat} {S : St} (hl : St.Lt ⟨a, b, c, d, f⟩) (w : World) : Calls Try.prog 13 #[stv a b c d f] w (fun e w'' => ∃ u, e = .returned u ∧ TT ⟨a, b, c, d, f⟩ S x y 13 #[stv a b c d f] u w'' ∧ Ext w w'') :=
  (may_walk _ _ _ _ _ w hl).mono fun e w' ⟨he, hb⟩ => ⟨_, he, ⟨(fun h => absurd h (by decide)), (fun h => absurd h (by decide)), (fun h => absurd h (by decide)), fun _ => rfl, (fun h => absurd h (by decide)), fun h => absurd h (by decide)⟩, hb⟩
theorem tt_e {a b c d f x y : Nat} {s : St} (w : World) : Calls Try.prog 14 #[stv a b c d f] w (fun e w'' => ∃ u, e = .returned u ∧ TT s ⟨a, b, c, d, f⟩ x y 14 #[stv a b c d f] u w'' ∧ Ext w w'') :=
  (rmay_walk _ _ _ _ _ w).mono fun e w' ⟨he, hb⟩ => ⟨_, he, ⟨(fun h => absurd h (by decide)), (fun h => absurd h (by decide)), (fun h => absurd h (by decide)), (fun h => absurd h (by decide)), fun _ => rfl, fun h => absurd h (by decide)⟩, hb⟩

theorem tt_g {s S : St} {x y : Nat} (w : World) : Calls Try.prog 20 #[] w (fun e w'' => ∃ u, e = .returned u ∧ TT s S x y 20 #[] u w'' ∧ Ext w w'') :=
  (wakes_walk w).mono fun e w' ⟨he, hb⟩ => ⟨_, he, ⟨(fun h => absurd h (by decide)), (fun h => absurd h (by decide)), (fun h => absurd h (by decide)), (fun h => absurd h (by decide)), (fun h => absurd h (by decide)), fun _ => rfl⟩, hb⟩
/-- three cells, a step -/
def AtT (W : World) (B o : Nat) (k : Int) (x y : Nat) : Prop := W.cell? ⟨B, o, none⟩ = some (.int .i64 k) ∧ W.cell? ⟨B, o + 1, none⟩ = some (.float .f64 x) ∧ W.cell? ⟨B, o + 2, none⟩ = some (.float .f64 y)

theorem AtT.keep {W w' : World} {B o : Nat} {k : Int} {x y : Nat} (h : AtT W B o k x y) (hB : B < W.heap.size) (hb : Below W.heap.size W w') : AtT w' B o k x y := by
  obtain ⟨h1, h2, h3⟩ := h
  exact ⟨(hb.cell hB).trans h1, (hb.cell hB).trans h2, (hb.cell hB).trans h3⟩

def BlS (W : World) (g a b c d f : Nat) : Prop := W.heap[g]? = some (.cells #[.float .f64 a, .float .f64 b, .float .f64 c, .float .f64 d, .float .f64 f] 24 (0, 0))
theorem BlS.at {W : World} {g a b c d f : Nat} (h : BlS W g a b c d f) : AtS W g a b c d f :=
  ⟨cell_of_heap h 0, cell_of_heap h 1, cell_of_heap h 2, cell_of_heap h 3, cell_of_heap h 4⟩
theorem BlS.lt {W : World} {g a b c d f : Nat} (h : BlS W g a b c d f) : g < W.heap.size := (Array.getElem?_eq_some_iff.1 h).1
theorem BlS.keep {W w' : World} {g a b c d f : Nat} (h : BlS W g a b c d f) (hb : Below W.heap.size W w') : BlS w' g a b c d f := (hb.block _ h.lt).trans h
theorem BlS.old {W : World} {g a b c d f : Nat} (h : BlS W g a b c d f) (o : Obj) : BlS (W.alloc o) g a b c d f := h.keep ((Below.refl _ W).alloc (Nat.le_refl _) o)
theorem BlS.new (W : World) (a b c d f : Nat) : BlS (W.alloc (.cells #[.float .f64 a, .float .f64 b, .float .f64 c, .float .f64 d, .float .f64 f] 24)) W.heap.size a b c d f := by
  unfold BlS; show (W.heap.push _)[W.heap.size]? = _; simp
theorem AtT.same {W w' : World} {B o : Nat} {k : Int} {x y : Nat} (h : AtT W B o k x y) (e : w'.heap[B]? = W.heap[B]?) : AtT w' B o k x y := by
  obtain ⟨h1, h2, h3⟩ := h
  unfold World.cell? at h1 h2 h3
  refine ⟨?_, ?_, ?_⟩ <;> unfold World.cell? <;> simp only [e] <;> assumption
theorem BlS.same {W w' : World} {g a b c d f : Nat} (h : BlS W g a b c d f) (e : w'.heap[g]? = W.heap[g]?) : BlS w' g a b c d f := e.trans h
theorem AtT.keepC {W w' : World} {B o : Nat} {k : Int} {x y : Nat} (h : AtT W B o k x y) (hB : B < W.heap.size) (hb : ∀ b i, b < W.heap.size → w'.cell? ⟨b, i, none⟩ = W.cell? ⟨b, i, none⟩) : AtT w' B o k x y := by
  obtain ⟨h1, h2, h3⟩ := h
  exact ⟨(hb _ _ hB).trans h1, (hb _ _ hB).trans h2, (hb _ _ hB).trans h3⟩
theorem AtS.keepC {W w' : World} {B a b c d f : Nat} (h : AtS W B a b c d f) (hB : B < W.heap.size) (hb : ∀ b i, b < W.heap.size → w'.cell? ⟨b, i, none⟩ = W.cell? ⟨b, i, none⟩) : AtS w' B a b c d f := by
  obtain ⟨h0, h1, h2, h3, h4⟩ := h
  exact ⟨(hb _ _ hB).trans h0, (hb _ _ hB).trans h1, (hb _ _ hB).trans h2, (hb _ _ hB).trans h3, (hb _ _ hB).trans h4⟩

set_option maxHeartbeats 4000000 in
theorem steps_law (a b c d f : Nat) (ao : Option Addr) (len cap : Nat) (w : World) (hl : St.Lt ⟨a, b, c, d, f⟩) (hlen : len ≤ 9223372036854775807)
    (hc : len = 0 ∨ ∃ b off, b < w.heap.size ∧ ao = some ⟨b, off, none⟩ ∧ ∀ i, i < len → ∃ k x y, AtT w b (off + i * 3) k x y) :
    Calls Try.prog 3 #[stv a b c d f, .slice ao len cap] w (fun e w' => e = .returned (.bool true) ∧ Below w.heap.size w w') := by
  have HL := Lib.hid hl
  have HC := Lib.hid hc
  clear hl hc
  go_enter Try.func3, Try.ntmps3
  go_wp2_with fail
  go_loopw [7] (fun i wr => ∃ (k : Nat) (a b c d f a' b' c' d' f' : Nat), k ≤ len ∧ i = .int .i64 k ∧ BlS wr (w.heap.size + 1) a b c d f ∧ BlS wr (w.heap.size + 1 + 1) a' b' c' d' f' ∧ St.Lt ⟨a, b, c, d, f⟩ ∧ St.Lt ⟨a', b', c', d', f'⟩ ∧ IsS ⟨a, b, c, d, f⟩ ⟨a', b', c', d', f'⟩ ∧ Below w.heap.size w wr ∧ w.heap.size + 1 + 1 < wr.heap.size)
    (fun i _ => len - (intOf i).toNat)
  case atStart => exact ⟨0, a, b, c, d, f, a, b, c, d, f, Nat.zero_le _, rfl, (by have := (BlS.new (w.alloc (.cells #[.float .f64 a, .float .f64 b, .float .f64 c, .float .f64 d, .float .f64 f] 24)) a b c d f).old (.cells #[.float .f64 a, .float .f64 b, .float .f64 c, .float .f64 d, .float .f64 f] 24); simpa using this), (by have := BlS.new ((w.alloc (.cells #[.float .f64 a, .float .f64 b, .float .f64 c, .float .f64 d, .float .f64 f] 24)).alloc (.cells #[.float .f64 a, .float .f64 b, .float .f64 c, .float .f64 d, .float .f64 f] 24)) a b c d f; simpa using this), HL.out, HL.out, IsS.refl _, (by (repeat' (first | assumption | exact Below.refl _ _ | refine below_drewN ?_ _ | refine Below.setCell ?_ (by first | exact Nat.le_refl _ | (simp; done) | (simp; omega)) _ | refine Below.alloc ?_ (by first | exact Nat.le_refl _ | (simp; done) | (simp; omega) | omega) _))), by simp⟩
  case round =>
    clear HL
    obtain ⟨k, a, b, c, d, f, a', b', c', d', f', hk, rfl, hA, hB, hl, hl', hs, hbw, hz⟩ := hrel
    have HA := Lib.hid hA
    have HB := Lib.hid hB
    have HL := Lib.hid hl
    have HL' := Lib.hid hl'
    have HS := Lib.hid hs
    have HW := Lib.hid hbw
    have HZ := Lib.hid hz
    clear hA hB hl hl' hs hbw
    by_cases hlt : k < len
    · obtain ⟨b0, off, hb0, rfl, hcell⟩ := HC.out.resolve_left (by omega)
      obtain ⟨kk, x, y, hc0, hc1, hc2⟩ := hcell k hlt
      have e0 : wr.cell? ⟨b0, off + k * 3, none⟩ = _ := (HW.out.cell hb0).trans hc0
      have e1 : wr.cell? ⟨b0, off + k * 3 + 1, none⟩ = _ := (HW.out.cell hb0).trans hc1
      have e2 : wr.cell? ⟨b0, off + k * 3 + 2, none⟩ = _ := (HW.out.cell hb0).trans hc2
      clear hcell hc0 hc1 hc2
      go_wp2_with fail
      have hz := HZ.out
      refine wp_forget (fun w1 => BlS w1 (w.heap.size + 1) a b c d f ∧ BlS w1 (w.heap.size + 1 + 1) a' b' c' d' f' ∧ AtT w1 wr.heap.size 0 kk x y ∧ Below wr.heap.size wr w1 ∧ wr.heap.size < w1.heap.size) ?_ ?_
      · exact ⟨HA.out.old _, HB.out.old _, (by refine ⟨?_, ?_, ?_⟩ <;> simp), (Below.refl _ _).alloc (Nat.le_refl _) _, by simp⟩
      rintro w1 ⟨ka, kb, kt, kw, kz⟩
      have KA := Lib.hid ka
      have KB := Lib.hid kb
      have KT := Lib.hid kt
      have KW := Lib.hid kw
      clear ka kb kt kw
      have HM : Hid (mayF ⟨a, b, c, d, f⟩ = mayF ⟨a', b', c', d', f'⟩) := Lib.hid (mayF_is HS.out)
      have HR : Hid (∀ r1 r2, Is r1 (farF ⟨a, b, c, d, f⟩ x y) → Is r2 (farF ⟨a', b', c', d', f'⟩ x y) → sameF r1 r2 = true) := Lib.hid (fun r1 r2 h1 h2 => sameF_is (h1.trans (by rw [farF_is HS.out (Is.refl x) (Is.refl y)]; exact h2.symm)))
      refine wp_region_G (TT ⟨a, b, c, d, f⟩ ⟨a', b', c', d', f'⟩ x y) (by kernel_rfl) (by kernel_rfl) ?_
      repeat' (refine wpG_step' (fun K hA hK => ?_); go_simp; first | (refine bothG_value hA (v := ?_) (fun w' hw' => ?_) ?_; rotate_left; (· go_simp; rfl); (refine hK _ _ ?_; clear hK hA K)) | (refine bothG_call (f := 11) (args := ?_) (fun w' => ?_) (fun w' _ => ?_) ?_; rotate_left; (· go_simp; rfl); (· exact tt_a _); (intro u x hu; obtain ⟨r1, rfl, hr1⟩ := hu.a rfl; clear hu; refine hK _ _ ?_; clear hK hA K)) | (refine bothG_call (f := 12) (args := ?_) (fun w' => ?_) (fun w' _ => ?_) ?_; rotate_left; (· go_simp; rfl); (· exact tt_b _); (intro u x hu; obtain ⟨r2, rfl, hr2⟩ := hu.b rfl; clear hu; refine hK _ _ ?_; clear hK hA K)) | (refine bothG_call (f := 10) (args := ?_) (fun w' => ?_) (fun w' _ => ?_) ?_; rotate_left; (· go_simp; rfl); (· exact tt_c _); (intro u x hu; obtain rfl := (hu.c rfl _ _ rfl).trans (congrArg _ (HR.out _ _ hr1 hr2)); clear hu; refine hK _ _ ?_; clear hK hA K)) | (refine bothG_call (f := 13) (args := ?_) (fun w' => ?_) (fun w' _ => ?_) ?_; rotate_left; (· go_simp; rfl); (· exact tt_d HL.out _); (intro u x hu; obtain rfl := hu.d rfl; clear hu; refine hK _ _ ?_; clear hK hA K)) | (refine bothG_call (f := 14) (args := ?_) (fun w' => ?_) (fun w' _ => ?_) ?_; rotate_left; (· go_simp; rfl); (· exact tt_e _); (intro u x hu; obtain rfl := (hu.e rfl).trans (congrArg _ HM.out.symm); clear hu; refine hK _ _ ?_; clear hK hA K)) | (refine bothG_value hA (v := ?_) (fun w' hw' => ?_) ?_; rotate_left; (· obtain ⟨a0, a1, a2, a3, a4⟩ := AtS.keepC KA.out.at (by omega) hw'; obtain ⟨b0, b1, b2, b3, b4⟩ := AtS.keepC KB.out.at (by omega) hw'; obtain ⟨t0, t1, t2⟩ := AtT.keepC KT.out (by omega) hw'; clear hw'; go_simp; rfl); (refine hK _ _ ?_; clear hK hA K)))
      refine wpG_nil ?_
      intro w2 hb2 hF
      clear hF
      have hz2 := hb2.size
      have PA := Lib.hid (KA.out.keep hb2)
      have PB := Lib.hid (KB.out.keep hb2)
      have PT := Lib.hid (KT.out.keep (by omega) hb2)
      obtain ⟨a0, a1, a2, a3, a4⟩ := PA.out.at
      obtain ⟨b0, b1, b2, b3, b4⟩ := PB.out.at
      obtain ⟨t0, t1, t2⟩ := PT.out
      have KV : Hid (Below wr.heap.size wr w2) := Lib.hid (KW.out.trans (hb2.mono (by omega)))
      clear hb2 KA KB KT KW
      go_wp2_with fail
      · clear a0 a1 a2 a3 a4 b0 b1 b2 b3 b4 t0 t1 t2
        refine (ahead_walk _ _ _ _ _ _ _ _ HL.out).mono ?_; rintro e w3 ⟨r1, r2, r3, r4, r5, rfl, ⟨hs3, hl3⟩, hb3⟩
        have hz3 := hb3.size
        have QA := PA.out.keep hb3
        have QB := Lib.hid (PB.out.keep hb3)
        have QT := Lib.hid (PT.out.keep (by omega) hb3)
        have KX : Hid (Below w.heap.size w w3) := Lib.hid ((HW.out.trans (KV.out.mono (by omega))).trans (hb3.mono (by omega)))
        have HS3 := Lib.hid hs3
        have HL3 := Lib.hid hl3
        clear PA PB PT KV hb3 hs3 hl3
        go_wp2_with (refine wpList_store_new rfl (ty := 24) (x := .tmp 5) (y := .tmp 51) rfl (g := w.heap.size + 1) rfl rfl QA (by kernel_rfl) rfl (by simp [Value.oneCell']) KX.out (by omega) ?_; intro w4 hg4 hb4 hz4 ho4; have RA := Lib.hid (show BlS w4 (w.heap.size + 1) r1 r2 r3 r4 r5 from hg4); have RB := Lib.hid (QB.out.same (ho4 _ (by omega))); have RT := Lib.hid (QT.out.same (ho4 _ (by omega))); have KY := Lib.hid hb4; have hy4 : w.heap.size + 1 + 1 < w4.heap.size := (by omega); have hx4 : wr.heap.size < w4.heap.size := (by omega); obtain ⟨b0, b1, b2, b3, b4⟩ := RB.out.at; obtain ⟨t0, t1, t2⟩ := RT.out)
        refine (rahead_walk _ _ _ _ _ _ _ _ HL'.out).mono ?_; rintro e w5 ⟨q1, q2, q3, q4, q5, rfl, ⟨hs5, hl5⟩, hb5⟩
        have hz5 := hb5.size
        have SA := Lib.hid (RA.out.keep hb5)
        have SB := RB.out.keep hb5
        have KZ : Hid (Below w.heap.size w w5) := Lib.hid (KY.out.trans (hb5.mono (by omega)))
        have HS5 := Lib.hid hs5
        have HL5 := Lib.hid hl5
        clear hs5 hl5 hb5
        go_wp2_with (refine wpList_store_new rfl (ty := 24) (x := .tmp 6) (y := .tmp 57) rfl (g := w.heap.size + 1 + 1) rfl rfl SB (by kernel_rfl) rfl (by simp [Value.oneCell']) KZ.out (by omega) ?_; intro w6 hg6 hb6 hz6 ho6; have TB := Lib.hid (show BlS w6 (w.heap.size + 1 + 1) q1 q2 q3 q4 q5 from hg6); have TA := Lib.hid (SA.out.same (ho6 _ (by omega))); have KQ := Lib.hid hb6; obtain ⟨a0, a1, a2, a3, a4⟩ := TA.out.at; obtain ⟨b0, b1, b2, b3, b4⟩ := TB.out.at)
        clear a0 a1 a2 a3 a4 b0 b1 b2 b3 b4
        have HS7 : Hid (IsS ⟨r1, r2, r3, r4, r5⟩ ⟨q1, q2, q3, q4, q5⟩) := Lib.hid (HS3.out.trans ((aheadF_is HS.out (Is.refl _) (Is.refl _)).trans HS5.out.symm))
        have HE := Lib.hid (sameS_is HS7.out)
        refine (same_walk _ _ _ _ _ _ _ _ _ _ _).mono ?_; rw [HE.out]; rintro e w7 ⟨rfl, hb7⟩
        have UA := Lib.hid (TA.out.keep hb7)
        have UB := Lib.hid (TB.out.keep hb7)
        have hz7 := hb7.size
        have KU : Hid (Below w.heap.size w w7) := Lib.hid (KQ.out.trans (hb7.mono (by omega)))
        clear hb7
        go_wp2_with fail
        go_roundw
        case rel => exact ⟨k + 1, r1, r2, r3, r4, r5, q1, q2, q3, q4, q5, by omega, by go_num, UA.out, UB.out, HL3.out, HL5.out, HS7.out, KU.out, by omega⟩
        case measure => simp [intOf]; omega
      · clear a0 a1 a2 a3 a4 b0 b1 b2 b3 b4 t0 t1 t2
        refine (seen_walk _ _ _ _ _ _ _ _ HL.out).mono ?_; rintro e w3 ⟨r1, r2, r3, r4, r5, rfl, ⟨hs3, hl3⟩, hb3⟩
        have hz3 := hb3.size
        have QA := PA.out.keep hb3
        have QB := Lib.hid (PB.out.keep hb3)
        have QT := Lib.hid (PT.out.keep (by omega) hb3)
        have KX : Hid (Below w.heap.size w w3) := Lib.hid ((HW.out.trans (KV.out.mono (by omega))).trans (hb3.mono (by omega)))
        have HS3 := Lib.hid hs3
        have HL3 := Lib.hid hl3
        clear PA PB PT KV hb3 hs3 hl3
        go_wp2_with (refine wpList_store_new rfl (ty := 24) (x := .tmp 5) (y := .tmp 65) rfl (g := w.heap.size + 1) rfl rfl QA (by kernel_rfl) rfl (by simp [Value.oneCell']) KX.out (by omega) ?_; intro w4 hg4 hb4 hz4 ho4; have RA := Lib.hid (show BlS w4 (w.heap.size + 1) r1 r2 r3 r4 r5 from hg4); have RB := Lib.hid (QB.out.same (ho4 _ (by omega))); have RT := Lib.hid (QT.out.same (ho4 _ (by omega))); have KY := Lib.hid hb4; have hy4 : w.heap.size + 1 + 1 < w4.heap.size := (by omega); have hx4 : wr.heap.size < w4.heap.size := (by omega); obtain ⟨b0, b1, b2, b3, b4⟩ := RB.out.at; obtain ⟨t0, t1, t2⟩ := RT.out)
        refine (rseen_walk _ _ _ _ _ _ _ _ HL'.out).mono ?_; rintro e w5 ⟨q1, q2, q3, q4, q5, rfl, ⟨hs5, hl5⟩, hb5⟩
        have hz5 := hb5.size
        have SA := Lib.hid (RA.out.keep hb5)
        have SB := RB.out.keep hb5
        have KZ : Hid (Below w.heap.size w w5) := Lib.hid (KY.out.trans (hb5.mono (by omega)))
        have HS5 := Lib.hid hs5
        have HL5 := Lib.hid hl5
        clear hs5 hl5 hb5
        go_wp2_with (refine wpList_store_new rfl (ty := 24) (x := .tmp 6) (y := .tmp 71) rfl (g := w.heap.size + 1 + 1) rfl rfl SB (by kernel_rfl) rfl (by simp [Value.oneCell']) KZ.out (by omega) ?_; intro w6 hg6 hb6 hz6 ho6; have TB := Lib.hid (show BlS w6 (w.heap.size + 1 + 1) q1 q2 q3 q4 q5 from hg6); have TA := Lib.hid (SA.out.same (ho6 _ (by omega))); have KQ := Lib.hid hb6; obtain ⟨a0, a1, a2, a3, a4⟩ := TA.out.at; obtain ⟨b0, b1, b2, b3, b4⟩ := TB.out.at)
        clear a0 a1 a2 a3 a4 b0 b1 b2 b3 b4
        have HS7 : Hid (IsS ⟨r1, r2, r3, r4, r5⟩ ⟨q1, q2, q3, q4, q5⟩) := Lib.hid (HS3.out.trans ((seenF_is HS.out (Is.refl _) (Is.refl _)).trans HS5.out.symm))
        have HE := Lib.hid (sameS_is HS7.out)
        refine (same_walk _ _ _ _ _ _ _ _ _ _ _).mono ?_; rw [HE.out]; rintro e w7 ⟨rfl, hb7⟩
        have UA := Lib.hid (TA.out.keep hb7)
        have UB := Lib.hid (TB.out.keep hb7)
        have hz7 := hb7.size
        have KU : Hid (Below w.heap.size w w7) := Lib.hid (KQ.out.trans (hb7.mono (by omega)))
        clear hb7
        go_wp2_with fail
        go_roundw
        case rel => exact ⟨k + 1, r1, r2, r3, r4, r5, q1, q2, q3, q4, q5, by omega, by go_num, UA.out, UB.out, HL3.out, HL5.out, HS7.out, KU.out, by omega⟩
        case measure => simp [intOf]; omega
      · clear a0 a1 a2 a3 a4 b0 b1 b2 b3 b4 t0 t1 t2
        have HE := Lib.hid (sameS_is HS.out)
        refine (same_walk _ _ _ _ _ _ _ _ _ _ _).mono ?_; rw [HE.out]; rintro e w7 ⟨rfl, hb7⟩
        have UA := Lib.hid (PA.out.keep hb7)
        have UB := Lib.hid (PB.out.keep hb7)
        have hz7 := hb7.size
        have KU : Hid (Below w.heap.size w w7) := Lib.hid ((HW.out.trans (KV.out.mono (by omega))).trans (hb7.mono (by omega)))
        clear hb7
        go_wp2_with fail
        go_roundw
        case rel => exact ⟨k + 1, _, _, _, _, _, _, _, _, _, _, by omega, by go_num, UA.out, UB.out, HL.out, HL'.out, HS.out, KU.out, by omega⟩
        case measure => simp [intOf]; omega
    · go_wp2_with fail
      have HM : Hid (mayF ⟨a, b, c, d, f⟩ = mayF ⟨a', b', c', d', f'⟩) := Lib.hid (mayF_is HS.out)
      refine wp_region_G (TT ⟨a, b, c, d, f⟩ ⟨a', b', c', d', f'⟩ 0 0) (by kernel_rfl) (by kernel_rfl) ?_
      repeat' (refine wpG_step' (fun K hA hK => ?_); go_simp; first | (refine bothG_value hA (v := ?_) (fun w' hw' => ?_) ?_; rotate_left; (· go_simp; rfl); (refine hK _ _ ?_; clear hK hA K)) | (refine bothG_call (f := 13) (args := ?_) (fun w' => ?_) (fun w' _ => ?_) ?_; rotate_left; (· go_simp; rfl); (· exact tt_d HL.out _); (intro u x hu; obtain rfl := hu.d rfl; clear hu; refine hK _ _ ?_; clear hK hA K)) | (refine bothG_call (f := 14) (args := ?_) (fun w' => ?_) (fun w' _ => ?_) ?_; rotate_left; (· go_simp; rfl); (· exact tt_e _); (intro u x hu; obtain rfl := (hu.e rfl).trans (congrArg _ HM.out.symm); clear hu; refine hK _ _ ?_; clear hK hA K)) | (refine bothG_call (f := 20) (args := ?_) (fun w' => ?_) (fun w' _ => ?_) ?_; rotate_left; (· go_simp; rfl); (· exact tt_g _); (intro u x hu; obtain rfl := hu.g rfl; clear hu; refine hK _ _ ?_; clear hK hA K)) | (refine bothG_value hA (v := ?_) (fun w' hw' => ?_) ?_; rotate_left; (· obtain ⟨a0, a1, a2, a3, a4⟩ := AtS.keepC HA.out.at (by omega) hw'; obtain ⟨b0, b1, b2, b3, b4⟩ := AtS.keepC HB.out.at (by omega) hw'; clear hw'; go_simp; rfl); (refine hK _ _ ?_; clear hK hA K)))
      refine wpG_nil ?_
      intro w2 hb2 hF
      clear hF
      go_wp2_with fail
      go_ret
      exact ⟨rfl, HW.out.trans (hb2.mono HW.out.size)⟩

theorem steps_args (W : World) (base : Nat) (args : Array Value) (hsz : args.size = Try.f3.params.size) (hval : ∀ (j : Nat) t v, Try.f3.params[j]? = some t → args[j]? = some v → Value.okWide Try.prog W .any base t v)
    (hrd : ∀ (j : Nat) t v, Try.f3.params[j]? = some t → args[j]? = some v → Rd Try.prog W t v.cells.toList) :
    Calls Try.prog 3 args W (fun e w' => e = .returned (.bool true) ∧ Below W.heap.size W w') := by
  rw [Try.params3] at hval hsz hrd
  obtain ⟨l⟩ := args
  match l, hsz with
  | [v0, v1], _ =>
    obtain ⟨l0, e0, rfl, hb0⟩ := ok_floats (P := Try.prog) (t := 24) (tf := 22) 5 Try.underlying22 (by kernel_rfl) (by kernel_rfl) (by kernel_rfl) (hval 0 24 v0 rfl rfl)
    obtain ⟨ao, len, cap, hv, h1, h2, h3⟩ := rd_row (P := Try.prog) (t := 25) (e := 27) (n := 3) Try.underlying25 (by kernel_rfl) (by decide) (hrd 1 25 v1 rfl rfl)
    obtain ⟨a1, n1, c1, rfl⟩ := okWide_slice Try.underlying25 (hval 1 25 v1 rfl rfl)
    obtain ⟨rfl, rfl, rfl⟩ : a1 = ao ∧ n1 = len ∧ c1 = cap := by simpa [Value.cells] using hv
    match l0, e0, hb0 with
    | [a, b, c, d, f], _, hb0 =>
      refine steps_law a b c d f a1 n1 c1 W ⟨hb0 a (by simp), hb0 b (by simp), hb0 c (by simp), hb0 d (by simp), hb0 f (by simp)⟩ (by unfold maxLen at h2; omega) (h3.imp_right ?_)
      rintro ⟨b0, off, hb, rfl, hc⟩
      refine ⟨b0, off, hb, rfl, fun i hi => ?_⟩
      obtain ⟨cs, hl, hcell, hr⟩ := hc i hi
      obtain ⟨_, hf⟩ := rd_struct Try.underlying27 hr
      match cs, hl with
      | [x0, x1, x2], _ =>
        have c3 : Try.prog.cellsOf 3 = 1 := by kernel_rfl
        have c22 : Try.prog.cellsOf 22 = 1 := by kernel_rfl
        obtain ⟨k, hk, _⟩ := rd_int Try.underlying3 (by simpa using hf 0 _ rfl)
        obtain ⟨x, hx, _⟩ := rd_float Try.underlying22 (by simpa using hf 1 _ rfl)
        obtain ⟨y, hy, _⟩ := rd_float Try.underlying22 (by simpa using hf 2 _ rfl)
        obtain rfl : x0 = .int .i64 k := by simpa [c3] using hk
        obtain rfl : x1 = .float .f64 x := by simpa [c22] using hx
        obtain rfl : x2 = .float .f64 y := by simpa [c22] using hy
        exact ⟨k, x, y, by have := hcell 0 (by decide); rwa [← Nat.add_assoc] at this, by have := hcell 1 (by decide); rwa [← Nat.add_assoc] at this, by have := hcell 2 (by decide); rwa [← Nat.add_assoc] at this⟩

set_option maxRecDepth 100000 in
theorem steps_lifted (os : Os) (started : os.Started) (H : Type) (enc : TypeId × Value → H) :
    ReturnsInHanded {} Try.checked os 3 .any (Rows.stateStepsSpec.pre6 enc Try.prog Try.f3 Rows.stateStepsRow.domain false) (Rows.stateStepsSpec.post enc Try.prog Try.f3 false true false false) :=
  law_lifted_s (C := Try.checked) Try.own started (by kernel_rfl) Try.func3
    (ChangeSpec.witness6 (enc := enc) (C := Try.checked) false ⟨#[], #[.agg #[.float .f64 0, .float .f64 0, .float .f64 0, .float .f64 0, .float .f64 0], .slice none 0 0], []⟩ 8 (by kernel_rfl) (by kernel_rfl) (by kernel_rfl) (by kernel_rfl))
    Try.laidOut (fun t ht => by have ht2 : t ∈ Try.f3.params.toList := ht; rw [Try.params3] at ht2; simp only [List.mem_cons, List.not_mem_nil, or_false] at ht2; rcases ht2 with rfl | rfl <;> exact ⟨by kernel_rfl, of_decide_eq_true (by kernel_rfl)⟩)
    rfl Try.underlying4 rfl (fun ds hd => by have hd2 : ds.length = Try.f3.params.size := hd; rw [Try.params3] at hd2; match ds, hd2 with | [d1, d2], _ => exact ⟨rfl, rfl, rfl⟩) steps_args

theorem steps_holds : Rows.StateStepsSaid :=
  OpenClaim.holds_of_wide 3 Try.f3 rfl rfl rfl rfl rfl rfl rfl ⟨rfl, rfl, rfl, rfl, rfl⟩ rfl rfl rfl rfl rfl (by kernel_rfl) Try.func3 (by kernel_rfl)
    (of_decide_eq_true (by kernel_rfl)) (by unfold Func.isWrapper; first | (rw [if_pos (by decide +kernel)]; kernel_rfl) | (rw [if_neg (by decide +kernel)]; exact ⟨rfl, rfl⟩))
    (fun os started H enc _ => steps_lifted os started H enc)
#print axioms steps_holds
end Go.Proofs.Ytjpddkojclgkmaa
