import Derived.Test.YtgdkmakmdomdbaaPnO
import Derived.Test.YtgdkmakmdomdbaaPnI
import Derived.Deep.QuietTactic
import Derived.Deep.DeepCutAuto
set_option autoImplicit false
set_option linter.unusedVariables false
namespace Go.Proofs.Ytgdkmakmdomdbaa
open Go.RowKit Lk Pn
def TND : FuncId → Array Value → Value → World → Prop := fun _ _ _ _ => False
theorem undrewD {B n : Nat} {w w' : World} (h : Below B (w.drewN n) w') : Below B w w' := ⟨h.os, h.tape, h.output, h.size, h.block⟩
theorem PAx.fp {Y : Ly} {w : World} {S : Nat → Prop} {p lb cap : Nat} {vs : List Value} {st : Pl} (h : PAx Y w S p lb cap vs st) (o : Nat) : w.frozen? ⟨p, o, none⟩ = false := by simp [World.frozen?, h.pl]
theorem run_pop (g off m c : Nat) (h : m + 1 ≤ c) (w : World) : (Instr.slice 66 (.slice (some ⟨g, off, none⟩) (m + 1) c) (some (.int .i64 1)) (some (.int .i64 ((m : Int) + 1))) (some (.int .i64 ((m : Int) + 1)))).run Try.prog w = .ok (.slice (some ⟨g, if m = 0 then off else off + 5, none⟩) m m) w := by
  simp [Instr.slice, run_underlying Try.und66, Instr.sliceBounds, Instr.sliceBound, asIntOf, go_sem]
  rw [if_pos ⟨by omega, by omega⟩, if_pos (by omega), if_pos (by omega)]
  split <;> rfl
theorem WtB.pop {Y : Ly} {w : World} {g off cap : Nat} {cur : Array Value} {r : Rn} {l : List Rn} (h : WtB Y w g off cap cur (r :: l)) : WtB Y w g (if l.length = 0 then off else off + 5) l.length cur l := by
  cases l with
  | nil => exact h.none
  | cons a l => rw [if_neg (by simp)]; exact h.tail
theorem modify_set {α : Type} {l : List α} {k : Nat} {x : α} {f : α → α} (h : l[k]? = some x) : l.modify k f = l.set k (f x) := by
  apply List.ext_getElem?
  intro j
  rw [List.getElem?_modify]
  by_cases e : k = j
  · subst e; rw [set_at h, h]; simp
  · rw [List.getElem?_set_ne e]; simp [e]
set_option maxRecDepth 100000 in
set_option maxHeartbeats 4000000 in
theorem done_walk (p lb cap : Nat) (vs : List Value) (S : Nat → Prop) (l : List Ln) (now : Int) (k : Nat) (x : Ln) (fr tz : Int) (b : Bool) (w : World) (h : PAx cY w S p lb cap vs ⟨l, now⟩) (hx : l[k]? = some x)
    (f0 : 0 ≤ fr) (f1 : fr ≤ tz) (f2 : tz ≤ 2305843009213693952) (lf0 : 0 ≤ x.lf) (lf1 : x.lf ≤ 1099511627776) (hn : x.wt ≠ []) (hr : ∀ r ∈ x.wt, RnOk r 2305843009213693952) (wl : x.wt.length ≤ 4194304) :
    Calls Try.prog 35 #[.pointer (some ⟨p, 0, none⟩), .agg #[.int .i64 k, .int .i64 fr, .int .i64 tz, .bool b]] w (fun e w' => e = .returned (.tuple #[]) ∧ (∃ vs', PAx cY w' (Sx S w w') p lb cap vs' ⟨setL l k (doneL (tz - fr)), tz⟩) ∧ Fr S w w') := by
  have hkl := (List.getElem?_eq_some_iff.1 hx).1
  have bA : Below w.heap.size w (w.alloc (.cells #[.int .i64 k, .int .i64 fr, .int .i64 tz, .bool b] 42)) := (Below.refl _ _).alloc (Nat.le_refl _) _
  have H := Lib.hid h
  have HX := Lib.hid hx
  have HR := Lib.hid hr
  have HN := Lib.hid hn
  have HWL := Lib.hid wl
  have PA0 := Lib.hid ((h.start.below bA).up bA.size)
  have F0 := Lib.hid (Fr.of_below (S := S) bA)
  obtain ⟨n, hnl⟩ : ∃ n, n = l.length := ⟨_, rfl⟩
  have p0 := h.p0
  have p1 := h.p1
  have pf := h.fp 1
  have cc := h.cap1
  have c63 := h.cap2
  have plt := h.plt
  simp only at p0 p1 cc
  rw [← hnl] at p0 cc hkl
  have HNL := Lib.hid hnl
  clear h hx hr hn wl hnl bA
  go_enter Try.func35, Try.ntmps35
  go_wp2_with fail
  go_quiet (fail)
  go_wp2_with fail
  obtain ⟨v, m0⟩ := Md.start ((((H.out.setNow tz).below (((Below.refl _ (w.setCell ⟨p, 1, none⟩ (.int .i64 tz))).alloc (Nat.le_refl _) (.cells #[.int .i64 k, .int .i64 fr, .int .i64 tz, .bool b] 42)))).start (w := _)).keep (S' := Sx S w ((w.setCell ⟨p, 1, none⟩ (.int .i64 tz)).alloc (.cells #[.int .i64 k, .int .i64 fr, .int .i64 tz, .bool b] 42))) (fun _ _ => rfl) (fun k hk => hk.elim .inl (fun e => absurd e.2 (by omega))) (fun k hk => hk.elim (fun e => by rw [al_size, size_setCell]; have := H.out.inS _ e; omega) (·.2)))
    (Fr.then (Fr.set (Fr.refl S w) (p := ⟨p, 1, none⟩) H.out.sp (.int .i64 tz)) ((Below.refl _ _).alloc (Nat.le_refl _) _)) HX.out
  have M0 := Lib.hid m0
  obtain ⟨⟨ev, lg, rk⟩, nx, wt, lf⟩ := x
  simp only at lf0 lf1
  obtain ⟨v', hv', A, W⟩ := H.out.ln HX.out
  have c5 := A.c5
  have ll := A.lt
  have np1 := H.out.ne
  have np2 := H.out.ne.symm
  have wz1 : IntKind.i64.wrap (tz - fr) = tz - fr := IntWalk.i64_in _ (by omega)
  have wz2 : IntKind.i64.wrap (lf - (tz - fr)) = lf - (tz - fr) := IntWalk.i64_in _ (by omega)
  simp only at c5
  clear m0 hv' A W p0 p1 pf
  refine wp_region_G_tail 12 TND (by kernel_rfl) (by kernel_rfl) ?_
  simp only [List.take, List.drop]
  repeat' (refine wpG_step' (fun K hA hK => ?_); go_simp; first | (refine bothG_value hA (v := ?_) (fun w' hw' => ?_) ?_; rotate_left; (· go_simp; rfl); (refine hK _ _ ?_; clear hK hA K)))
  refine wpG_nil ?_
  intro w2 hb2 hF
  have M2 := Lib.hid (M0.out.below (undrewD hb2))
  have c5 := M2.out.ln.1.c5
  have c6 := M2.out.ln.1.fz (k * 6 + 5)
  have ll := M2.out.ln.1.lt
  simp only at c5
  clear hF hb2 np1 np2 M0 F0 PA0
  go_upto_region 4 with fail
  have M3 := Lib.hid (M2.out.setLf (lf - (tz - fr)))
  generalize w2.setCell ⟨lb, k * 6 + 5, none⟩ (.int .i64 (lf - (tz - fr))) = w3 at M3 ⊢
  clear c5 c6 M2 ll wz1 wz2
  have c5 := M3.out.ln.1.c5
  simp only at c5
  obtain ⟨d, hd⟩ : ∃ d, d = tz - fr := ⟨_, rfl⟩
  rw [← hd] at M3 c5 ⊢
  have HD := Lib.hid hd
  have d0 : 0 ≤ d := by omega
  have d1 : d ≤ 2305843009213693952 := by omega
  clear hd
  by_cases hpos : 0 < lf - d
  · have HP := Lib.hid hpos
    go_wp2_with fail
    refine bodyPost_ret (v := .tuple #[]) (by simp [results, Try.results35, go_sem]) rfl ?_
    obtain ⟨vs', Q⟩ := M3.out.pa
    refine ⟨rfl, ⟨vs', ?_⟩, M3.out.fr⟩
    have e : setL l k (doneL d) = l.set k ⟨⟨ev, lg, rk⟩, nx, wt, lf - d⟩ := by
      unfold setL doneL
      rw [Int.toNat_natCast, modify_set HX.out, if_pos HP.out]
    rw [← HD.out, e]
    exact Q
  · have HP := Lib.hid (show ¬ 0 < lf - d from hpos)
    cases wt with
    | nil => exact absurd rfl HN.out
    | cons r ws =>
      obtain ⟨⟨rev, rlg, rrk⟩, rfi, rct⟩ := r
      obtain ⟨g, off, c, cur, e1, B⟩ := M3.out.ln.2.some (by simp)
      simp only [List.length_cons] at e1
      subst e1
      have ro := HR.out ⟨⟨rev, rlg, rrk⟩, rfi, rct⟩ (by simp)
      obtain ⟨r1, r2, r3, r4, r5, r6, r7⟩ := ro
      try simp only at r1 r2 r3 r4 r5 r6 r7
      have r8 : rct ≤ 2305843009213693952 := by
        have h3 : rct * 1 ≤ rct * rev := Int.mul_le_mul_of_nonneg_left r1 (by omega)
        omega
      have r9 : rfi ≤ 2305843009213693952 := by
        have : 0 ≤ rct * rev := Int.mul_nonneg (by omega) (by omega)
        omega
      have c4 := M3.out.ln.1.c4
      have hl5 : ws.length < 4194304 := by have := HWL.out; simp at this; omega
      have hlc : ws.length + 1 ≤ c := B.le
      have c64 : c ≤ 9223372036854775807 := by have := B.cm; unfold maxLen at this; omega
      have a0 := B.cell (j := 0) rfl (q := 0) (by decide)
      have a3 := B.cell (j := 0) rfl (q := 3) (by decide)
      simp only [cY, List.getElem?_cons_zero, List.getElem?_cons_succ, Nat.zero_mul, Nat.zero_add, Nat.add_zero] at a0 a3
      have gl := B.lt
      have ng := M3.out.ne (g := g) rfl
      have wz : IntKind.i64.wrap (rfi + rev) = rfi + rev := IntWalk.i64_in _ (by omega)
      have HNG := Lib.hid ng
      clear r7 B ng
      go_wp2_with fail
      refine wp_region_G_tail 12 TND (by kernel_rfl) (by kernel_rfl) ?_
      simp only [List.take, List.drop]
      repeat' (refine wpG_step' (fun K hA hK => ?_); go_simp; first | (refine bothG_value hA (v := ?_) (fun w' hw' => ?_) ?_; rotate_left; (· go_simp; rfl); (refine hK _ _ ?_; clear hK hA K)))
      refine wpG_nil ?_
      intro w4 hb4 hF
      have M4 := Lib.hid (M3.out.below hb4)
      obtain ⟨g', off', c', cur4, e4, B4⟩ := M4.out.ln.2.some (by simp)
      simp only [List.length_cons] at e4
      cases e4
      have a3 := B4.cell (j := 0) rfl (q := 3) (by decide)
      have af := B4.frozen (off + 3)
      simp only [cY, List.getElem?_cons_zero, List.getElem?_cons_succ, Nat.zero_mul, Nat.zero_add] at a3
      have gl := B4.lt
      have M5 : Hid (Md cY S w (w4.setCell ⟨g, off + 3, none⟩ (.int .i64 (rfi + rev))) p lb cap tz l k ⟨⟨ev, lg, rk⟩, nx, (⟨⟨rev, rlg, rrk⟩, rfi + rev, rct⟩ : Rn) :: ws, lf - d⟩ (.slice (some ⟨g, off, none⟩) (ws.length + 1) c)) :=
        Lib.hid (M4.out.setRun rfl B4 (j := 0) rfl (q := 3) (by decide) (.int .i64 (rfi + rev)) (r' := ⟨⟨rev, rlg, rrk⟩, rfi + rev, rct⟩) rfl)
      clear hF hb4 c5 c4 a0 B4 M3 wz
      go_upto_region 7 with fail
      generalize w4.setCell ⟨g, off + 3, none⟩ (.int .i64 (rfi + rev)) = w5 at M5 ⊢
      clear a3 af M4 gl
      obtain ⟨g', off', c', cur5, e5, B5⟩ := M5.out.ln.2.some (by simp)
      simp only [List.length_cons] at e5
      cases e5
      have a4 := B5.cell (j := 0) rfl (q := 4) (by decide)
      have af := B5.frozen (off + 4)
      simp only [cY, List.getElem?_cons_zero, List.getElem?_cons_succ, Nat.zero_mul, Nat.zero_add] at a4
      have M7 : Hid (Md cY S w (w5.setCell ⟨g, off + 4, none⟩ (.int .i64 (rct - 1))) p lb cap tz l k ⟨⟨ev, lg, rk⟩, nx, (⟨⟨rev, rlg, rrk⟩, rfi + rev, rct - 1⟩ : Rn) :: ws, lf - d⟩ (.slice (some ⟨g, off, none⟩) (ws.length + 1) c)) :=
        Lib.hid (M5.out.setRun rfl B5 (j := 0) rfl (q := 4) (by decide) (.int .i64 (rct - 1)) (r' := ⟨⟨rev, rlg, rrk⟩, rfi + rev, rct - 1⟩) rfl)
      clear B5
      go_upto_region 8 with fail
      generalize w5.setCell ⟨g, off + 4, none⟩ (.int .i64 (rct - 1)) = w7 at M7 ⊢
      clear a4 af M5
      obtain ⟨g', off', c', cur7, e7, B7⟩ := M7.out.ln.2.some (by simp)
      simp only [List.length_cons] at e7
      cases e7
      have a4 := B7.cell (j := 0) rfl (q := 4) (by decide)
      have a1 := B7.cell (j := 0) rfl (q := 1) (by decide)
      simp only [cY, List.getElem?_cons_zero, List.getElem?_cons_succ, Nat.zero_mul, Nat.zero_add] at a4 a1
      have c4 := M7.out.ln.1.c4
      have c5 := M7.out.ln.1.c5
      have cf := M7.out.ln.1.fz (k * 6 + 5)
      have ll := M7.out.ln.1.lt
      simp only at c4 c5
      have HB := Lib.hid B7
      clear B7
      by_cases hz : rct - 1 = 0
      · have hzb : (rct - 1 == 0) = true := by simpa using hz
        have HZ := Lib.hid hz
        obtain ⟨o2, ho2⟩ : ∃ o2, o2 = if ws.length = 0 then off else off + 5 := ⟨_, rfl⟩
        have hp := run_pop g off ws.length c hlc
        rw [← ho2] at hp
        have HO2 := Lib.hid ho2
        clear hz a1 c5 cf ho2
        go_wp2_with fail
        refine wp_region_G_tail 18 TND (by kernel_rfl) (by kernel_rfl) ?_
        simp only [List.take, List.drop]
        iterate 18 (refine wpG_step' (fun K hA hK => ?_); go_simp; (refine bothG_value hA (v := ?_) (fun w' hw' => ?_) ?_; rotate_left; (· go_simp; rfl); (refine hK _ _ ?_; clear hK hA K)))
        refine wpG_nil ?_
        intro w8 hb8 hF
        have M8 := Lib.hid (M7.out.below hb8)
        have B8 : Hid (WtB cY w8 g o2 ws.length cur7 ws) := Lib.hid (by rw [HO2.out]; exact (HB.out.of_block (hb8.block g HB.out.lt)).pop)
        have M9 := Lib.hid (M8.out.pop (v' := .slice (some ⟨g, o2, none⟩) ws.length ws.length) (l := ws) (.inr ⟨g, o2, _, _, rfl, B8.out⟩) (fun _ h => h))
        have c4 := M8.out.ln.1.c4
        have cf := M8.out.ln.1.fz (k * 6 + 4)
        have ll := M8.out.ln.1.lt
        clear hF hb8 M7 HB hp
        go_upto_region 10 with fail
        generalize w8.setCell ⟨lb, k * 6 + 4, none⟩ (.slice (some ⟨g, o2, none⟩) ws.length ws.length) = w9 at M9 ⊢
        clear c4 cf M8 B8
        have c4 := M9.out.ln.1.c4
        have ll := M9.out.ln.1.lt
        have W9 := M9.out.ln.2
        simp only at c4 W9
        cases ws with
        | nil =>
          have c4 : w9.cell? ⟨lb, k * 6 + 4, none⟩ = some (.slice (some ⟨g, o2, none⟩) 0 0) := c4
          clear W9
          go_wp2_with fail
          go_end0
          obtain ⟨vs', Q⟩ := M9.out.pa
          refine ⟨rfl, ⟨vs', ?_⟩, M9.out.fr⟩
          have e : setL l k (doneL d) = l.set k ⟨⟨ev, lg, rk⟩, nx, [], lf - d⟩ := by
            unfold setL doneL popW
            rw [Int.toNat_natCast, modify_set HX.out, if_neg (by have := HP.out; simp only; omega)]
            simp only [HZ.out, if_true]
          rw [← HD.out, e]
          exact Q
        | cons r2 ws =>
          obtain ⟨⟨sev, slg, srk⟩, sfi, sct⟩ := r2
          obtain ⟨g', off', c', cur9, e9, B9⟩ := W9.some (by simp)
          simp only [List.length_cons] at e9
          cases e9
          have a1 := B9.cell (j := 0) rfl (q := 1) (by decide)
          simp only [cY, List.getElem?_cons_zero, List.getElem?_cons_succ, Nat.zero_mul, Nat.zero_add] at a1
          have c4 : w9.cell? ⟨lb, k * 6 + 4, none⟩ = some (.slice (some ⟨g, o2, none⟩) (ws.length + 1) (ws.length + 1)) := c4
          have c5 := M9.out.ln.1.c5
          have cf := M9.out.ln.1.fz (k * 6 + 5)
          simp only at c5
          clear B9 W9
          go_wp2_with fail
          have M10 := Lib.hid (M9.out.setLf slg)
          go_end0
          obtain ⟨vs', Q⟩ := M10.out.pa
          refine ⟨rfl, ⟨vs', ?_⟩, M10.out.fr⟩
          have e : setL l k (doneL d) = l.set k ⟨⟨ev, lg, rk⟩, nx, (⟨⟨sev, slg, srk⟩, sfi, sct⟩ : Rn) :: ws, slg⟩ := by
            unfold setL doneL popW
            rw [Int.toNat_natCast, modify_set HX.out, if_neg (by have := HP.out; simp only; omega)]
            simp only [HZ.out, if_true]
          rw [← HD.out, e]
          exact Q
      · have hzb : (rct - 1 == 0) = false := by simpa using hz
        have HZ := Lib.hid hz
        clear hz
        go_wp2_with fail
        have M9 := Lib.hid (M7.out.setLf rlg)
        go_end0
        obtain ⟨vs', Q⟩ := M9.out.pa
        refine ⟨rfl, ⟨vs', ?_⟩, M9.out.fr⟩
        have e : setL l k (doneL d) = l.set k ⟨⟨ev, lg, rk⟩, nx, (⟨⟨rev, rlg, rrk⟩, rfi + rev, rct - 1⟩ : Rn) :: ws, rlg⟩ := by
          unfold setL doneL popW
          rw [Int.toNat_natCast, modify_set HX.out, if_neg (by have := HP.out; simp only; omega)]
          simp only [HZ.out, if_false]
        rw [← HD.out, e]
        exact Q
end Go.Proofs.Ytgdkmakmdomdbaa
