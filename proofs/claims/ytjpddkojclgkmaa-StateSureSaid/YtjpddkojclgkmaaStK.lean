import Derived.Test.YtjpddkojclgkmaaStB
import Derived.Test.YtjpddkojclgkmaaStC
import Derived.Test.YtjpddkojclgkmaaStD
import Derived.Test.YtjpddkojclgkmaaStM
import Derived.WalkKit
import Derived.WalkLawsBesides
import Derived.WalkSpells
import Derived.BigQuiet
import Derived.Lib.Hide
import Derived.Outline
set_option autoImplicit false
namespace Go.Proofs.Ytjpddkojclgkmaa
open Go.RowKit Lk

/-- a state without a NaN: the words themselves -/
theorem exactS {S : St} {w w' : World} {e : Ending} (h : RSB S w e w') (hx : ¬ Nan S.x) (hv : ¬ Nan S.v) (h1 : ¬ Nan S.pxx) (h2 : ¬ Nan S.pxv) (h3 : ¬ Nan S.pvv) :
    e = .returned (stv S.x S.v S.pxx S.pxv S.pvv) ∧ Below w.heap.size w w' := by
  obtain ⟨a, b, c, d, f, he, ⟨hs, _⟩, hb⟩ := h
  have e1 := hs.x.eq hx
  have e2 := hs.v.eq hv
  have e3 := hs.pxx.eq h1
  have e4 := hs.pxv.eq h2
  have e5 := hs.pvv.eq h3
  simp only at e1 e2 e3 e4 e5
  subst e1 e2 e3 e4 e5
  exact ⟨he, hb⟩
def n10 : Nat := 4621819117588971520
def n4 : Nat := 4616189618054758400
def n1 : Nat := 4607182418800017408
theorem start10 (w : World) : Calls Try.prog 21 #[.float .f64 4621819117588971520, .float .f64 4616189618054758400, .float .f64 4607182418800017408] w
    (fun e w' => e = .returned (stv 4621819117588971520 0 4616189618054758400 0 4607182418800017408) ∧ Below w.heap.size w w') :=
  (start_walk _ _ _ w (by decide) (by decide) (by decide)).mono fun e w' h => exactS h (by decide +kernel) (by decide +kernel) (by decide +kernel) (by decide +kernel) (by decide +kernel)
theorem ahead10v : aheadF ⟨4621819117588971520, 0, 4616189618054758400, 0, 4607182418800017408⟩ 4611686018427387904 4604930618986332160 = ⟨4621819117588971520, 0, 4621819117588971520, 4615063718147915776, 4612811918334230528⟩ := by kernel_rfl
theorem ahead10 (w : World) : Calls Try.prog 15 #[stv 4621819117588971520 0 4616189618054758400 0 4607182418800017408, .float .f64 4611686018427387904, .float .f64 4604930618986332160] w
    (fun e w' => e = .returned (stv 4621819117588971520 0 4621819117588971520 4615063718147915776 4612811918334230528) ∧ Below w.heap.size w w') :=
  (ahead_walk _ _ _ _ _ _ _ w ⟨by decide, by decide, by decide, by decide, by decide⟩).mono fun e w' h => by
    rw [ahead10v] at h
    exact exactS h (by decide +kernel) (by decide +kernel) (by decide +kernel) (by decide +kernel) (by decide +kernel)
theorem seen10v : seenF ⟨4621819117588971520, 0, 4621819117588971520, 4615063718147915776, 4612811918334230528⟩ 4624070917402656768 4618441417868443648 = ⟨4623226492472524800, 4606056518893174784, 4615626668101337088, 4608589793683570688, 4610489749776367616⟩ := by kernel_rfl
theorem seen10 (w : World) : Calls Try.prog 17 #[stv 4621819117588971520 0 4621819117588971520 4615063718147915776 4612811918334230528, .float .f64 4624070917402656768, .float .f64 4618441417868443648] w
    (fun e w' => e = .returned (stv 4623226492472524800 4606056518893174784 4615626668101337088 4608589793683570688 4610489749776367616) ∧ Below w.heap.size w w') :=
  (seen_walk _ _ _ _ _ _ _ w ⟨by decide, by decide, by decide, by decide, by decide⟩).mono fun e w' h => by
    rw [seen10v] at h
    exact exactS h (by decide +kernel) (by decide +kernel) (by decide +kernel) (by decide +kernel) (by decide +kernel)
theorem far10 (w : World) : Calls Try.prog 11 #[stv 4621819117588971520 0 4621819117588971520 4615063718147915776 4612811918334230528, .float .f64 4624070917402656768, .float .f64 4618441417868443648] w
    (fun e w' => e = .returned (.float .f64 4607182418800017408) ∧ Below w.heap.size w w') :=
  (far_walk _ _ _ _ _ _ _ w).mono fun e w' ⟨r, he, hr, hb⟩ => by
    have h := hr.eq (show ¬ Nan (farF _ _ _) by decide +kernel)
    rw [show farF ⟨4621819117588971520, 0, 4621819117588971520, 4615063718147915776, 4612811918334230528⟩ 4624070917402656768 4618441417868443648 = 4607182418800017408 by kernel_rfl] at h
    subst h
    exact ⟨he, hb⟩
theorem may10 (w : World) : Calls Try.prog 13 #[stv 4621819117588971520 0 4616189618054758400 0 4607182418800017408] w (fun e w' => e = .returned (.bool true) ∧ Below w.heap.size w w') :=
  (may_walk _ _ _ _ _ w ⟨by decide, by decide, by decide, by decide, by decide⟩).mono fun e w' ⟨he, hb⟩ => by
    rw [show mayF ⟨4621819117588971520, 0, 4616189618054758400, 0, 4607182418800017408⟩ = true by kernel_rfl] at he
    exact ⟨he, hb⟩
theorem may11 (w : World) : Calls Try.prog 13 #[stv 0 0 13830554455654793216 0 0] w (fun e w' => e = .returned (.bool false) ∧ Below w.heap.size w w') :=
  (may_walk _ _ _ _ _ w ⟨by decide, by decide, by decide, by decide, by decide⟩).mono fun e w' ⟨he, hb⟩ => by
    rw [show mayF ⟨0, 0, 13830554455654793216, 0, 0⟩ = false by kernel_rfl] at he
    exact ⟨he, hb⟩
def AtS (W : World) (B : Nat) (a b c d f : Nat) : Prop := W.cell? ⟨B, 0, none⟩ = some (.float .f64 a) ∧ W.cell? ⟨B, 1, none⟩ = some (.float .f64 b) ∧ W.cell? ⟨B, 2, none⟩ = some (.float .f64 c) ∧ W.cell? ⟨B, 3, none⟩ = some (.float .f64 d) ∧ W.cell? ⟨B, 4, none⟩ = some (.float .f64 f)
theorem AtS.keep {W w' : World} {B a b c d f : Nat} (h : AtS W B a b c d f) (hB : B < W.heap.size) (hb : Below W.heap.size W w') : AtS w' B a b c d f := by
  obtain ⟨hc, _⟩ := bcell hb
  obtain ⟨h0, h1, h2, h3, h4⟩ := h
  exact ⟨(hc _ _ hB).trans h0, (hc _ _ hB).trans h1, (hc _ _ hB).trans h2, (hc _ _ hB).trans h3, (hc _ _ hB).trans h4⟩
theorem AtS.new (W : World) (a b c d f t : Nat) : AtS (W.alloc (.cells #[.float .f64 a, .float .f64 b, .float .f64 c, .float .f64 d, .float .f64 f] t)) W.heap.size a b c d f := by
  refine ⟨?_, ?_, ?_, ?_, ?_⟩ <;> simp
theorem AtS.old {W : World} {B a b c d f : Nat} (h : AtS W B a b c d f) (hB : B < W.heap.size) (o : Obj) : AtS (W.alloc o) B a b c d f :=
  h.keep hB ((Below.refl _ _).alloc (Nat.le_refl _) o)
theorem AtS.lt {W w' : World} {o : Obj} (hb : Below (W.alloc o).heap.size (W.alloc o) w') : W.heap.size < w'.heap.size := by
  have := hb.size
  simp at this
  omega

set_option maxHeartbeats 1000000 in
theorem wakes_walk (w : World) : Calls Try.prog 20 #[] w (fun e w' => e = .returned (.bool true) ∧ Below w.heap.size w w') := by
  have d1 : (FloatKind.f64.format.order 4621819117588971520 4621819117588971520 == some Ordering.eq) = true := by decide +kernel
  have d2 : (FloatKind.f64.format.order 0 0 == some Ordering.eq) = true := by decide +kernel
  have d3 : (FloatKind.f64.format.order 4616189618054758400 4616189618054758400 == some Ordering.eq) = true := by decide +kernel
  have d4 : (FloatKind.f64.format.order 4607182418800017408 4607182418800017408 == some Ordering.eq) = true := by decide +kernel
  have d5 : (FloatKind.f64.format.order 4615063718147915776 4615063718147915776 == some Ordering.eq) = true := by decide +kernel
  have d6 : (FloatKind.f64.format.order 4612811918334230528 4612811918334230528 == some Ordering.eq) = true := by decide +kernel
  have q1 := fun x y (w : World) => run_equalIn_float (P := Try.prog) 9998 x y w Try.underlying22
  simp only [Nat.reduceAdd] at q1
  go_enter Try.func20, Try.ntmps20
  go_wp2_with fail
  refine (start10 _).mono ?_; rintro e w1 ⟨rfl, hb1⟩; have hz1 := hb1.size
  go_wp2_with fail
  refine (ahead10 _).mono ?_; rintro e w2 ⟨rfl, hb2⟩
  have hz2 := AtS.lt hb2
  have s1 := (AtS.new _ _ _ _ _ _ _).keep (by simp) hb2
  have S1 := Lib.hid s1
  clear s1
  go_wp2_with fail
  refine (seen10 _).mono ?_; rintro e w3 ⟨rfl, hb3⟩
  have hz3 := AtS.lt hb3
  have S3 := Lib.hid ((S1.out.old hz2 (.cells #[.float .f64 4621819117588971520, .float .f64 0, .float .f64 4621819117588971520, .float .f64 4615063718147915776, .float .f64 4612811918334230528] 24)).keep (by simp; omega) hb3)
  obtain ⟨a0, a1, a2, a3, a4⟩ := S3.out
  obtain ⟨b0, b1, b2, b3, b4⟩ := (AtS.new _ _ _ _ _ _ _).keep (by simp) hb3
  have hz4 : w1.heap.size < w3.heap.size := Nat.lt_trans hz2 hz3
  go_wp2_with fail
  refine (far10 _).mono ?_; rintro e w4 ⟨rfl, hb4⟩
  clear a0 a1 a2 a3 a4 b0 b1 b2 b3 b4
  obtain ⟨a0, a1, a2, a3, a4⟩ := (S3.out.old hz4 _).keep (by simp; omega) hb4
  go_wp2_with fail
  refine (may10 _).mono ?_; rintro e w5 ⟨rfl, hb5⟩
  clear a0 a1 a2 a3 a4
  go_wp2_with fail
  refine (may11 _).mono ?_; rintro e w6 ⟨rfl, hb6⟩
  go_wp2_with fail
  go_ret
  refine ⟨rfl, ?_⟩
  have hz5 := AtS.lt hb4
  have hz6 := hb5.size
  have e2 := (hb1.alloc hz1 _).trans (hb2.mono (by simp; omega))
  have e3 := (e2.alloc (by omega) _).trans (hb3.mono (by simp; omega))
  have e4 := (e3.alloc (by omega) _).trans (hb4.mono (by simp; omega))
  have e5 := e4.trans (hb5.mono (by omega))
  exact e5.trans (hb6.mono (by omega))
end Go.Proofs.Ytjpddkojclgkmaa
