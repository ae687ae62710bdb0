import Derived.Test.YthdpkmdkoldneaaLd
import Derived.Test.YthdpkmdkoldneaaNsP
import Derived.Test.YthdpkmdkoldneaaFlG
import Derived.Test.YthdpkmdkoldneaaProg
import Derived.WalkKit
import Derived.WalkLawsBesides
import Derived.WalkSpells
import Derived.BigQuiet
import Derived.Lib.Hide
import Derived.Outline
import Derived.LoopTactic
import Derived.Laws.BitsAllLaws
import Derived.Deep.Heap
set_option autoImplicit false
set_option linter.unusedVariables false
namespace Go.Proofs.Ythdpkmdkoldneaa
open Go.RowKit Lk
/-- a source's block -/
def BlN (W : World) (g s : Nat) : Prop := W.heap[g]? = some (.cells #[.int .u64 s] 47 (0, 0))
/-- nothing has turned but block b; memory may have grown -/
structure One (b : Nat) (w w' : World) : Prop where
  os : w'.os = w.os
  tape : w'.tape = w.tape
  output : w'.output = w.output
  size : w.heap.size ≤ w'.heap.size
  block : ∀ k, k < w.heap.size → k ≠ b → w'.heap[k]? = w.heap[k]?
theorem One.refl (b : Nat) (w : World) : One b w w := ⟨rfl, rfl, rfl, Nat.le_refl _, fun _ _ _ => rfl⟩
theorem One.trans {b : Nat} {x y z : World} (h : One b x y) (k : One b y z) : One b x z :=
  ⟨k.os.trans h.os, k.tape.trans h.tape, k.output.trans h.output, Nat.le_trans h.size k.size, fun i hi hn => (k.block i (Nat.lt_of_lt_of_le hi h.size) hn).trans (h.block i hi hn)⟩
theorem One.of {b : Nat} {w w' : World} (h : Below w.heap.size w w') : One b w w' := ⟨h.os, h.tape, h.output, h.size, fun k hk _ => h.block k hk⟩
theorem One.below {b B : Nat} {w w' : World} (h : One b w w') (hB : B ≤ b) (hs : B ≤ w.heap.size) : Below B w w' := ⟨h.os, h.tape, h.output, h.size, fun k hk => h.block k (by omega) (by omega)⟩
theorem One.drew {b : Nat} {w w' : World} (h : One b w w') (n : Nat) : One b w (w'.drewN n) := ⟨h.os, h.tape, h.output, h.size, h.block⟩
theorem BlN.lt {W : World} {g s : Nat} (h : BlN W g s) : g < W.heap.size := (Array.getElem?_eq_some_iff.1 h).1
theorem BlN.keep {W w' : World} {g s b : Nat} (h : BlN W g s) (hb : One b W w') (hn : g ≠ b) : BlN w' g s := (hb.block _ h.lt hn).trans h
theorem BlN.stay {W w' : World} {g s : Nat} (h : BlN W g s) (hb : Below W.heap.size W w') : BlN w' g s := (hb.block _ h.lt).trans h
theorem BlN.cell {W : World} {g s : Nat} (h : BlN W g s) : W.cell? ⟨g, 0, none⟩ = some (.int .u64 s) := cell_of_heap h 0
theorem BlN.frozen {W : World} {g s : Nat} (h : BlN W g s) : W.frozen? ⟨g, 0, none⟩ = false := by unfold World.frozen?; rw [h]; rfl
theorem BlN.new (W : World) (s : Nat) : BlN (W.alloc (.cells #[.int .u64 s] 47)) W.heap.size s := by
  unfold BlN; show (W.heap.push _)[W.heap.size]? = _; simp
theorem BlN.set {W : World} {g s : Nat} (h : BlN W g s) {v : Value} {t : Nat} (hv : v = .int .u64 t) : BlN (W.setCell ⟨g, 0, none⟩ v) g t ∧ One g W (W.setCell ⟨g, 0, none⟩ v) := by
  subst hv
  refine ⟨?_, rfl, rfl, rfl, by simp [World.setCell], fun k _ hk => Deep.blk_setCell_other _ _ _ _ hk⟩
  have hlt := h.lt
  have hv : W.heap[g] = _ := (Array.getElem?_eq_some_iff.1 h).2
  unfold BlN World.setCell
  rw [Array.getElem?_eq_getElem (by simpa using hlt), Array.getElem_modify]
  simp [hv]

theorem wrap_add (s : Nat) : IntKind.u64.wrap ((s : Int) + 11400714819323198485) = ((nx s : Nat) : Int) := by rw [IntKind.wrap_u64]; unfold nx GOLD; omega
theorem xor_sh (z m : Nat) (h : z < 2 ^ 64) : bits BinOp.xor IntKind.u64 (z : Int) ((z : Int) / (m : Int)) = ((z ^^^ z / m : Nat) : Int) := by
  have := u64_xor_nat z (z / m) h (Nat.lt_of_le_of_lt (Nat.div_le_self _ _) h)
  rw [← this]; rfl
theorem wrap_mul (z k : Nat) : IntKind.u64.wrap ((z : Int) * (k : Int)) = ((z * k % 2 ^ 64 : Nat) : Int) := by rw [IntKind.wrap_u64]; rfl
theorem mix_form (s : Nat) :
    bits BinOp.xor IntKind.u64 (IntKind.u64.wrap (bits BinOp.xor IntKind.u64 (IntKind.u64.wrap (bits BinOp.xor IntKind.u64 (IntKind.u64.wrap ((s : Int) + 11400714819323198485)) (IntKind.u64.wrap ((s : Int) + 11400714819323198485) / 1073741824) * 13787848793156543929))
        (IntKind.u64.wrap (bits BinOp.xor IntKind.u64 (IntKind.u64.wrap ((s : Int) + 11400714819323198485)) (IntKind.u64.wrap ((s : Int) + 11400714819323198485) / 1073741824) * 13787848793156543929) / 134217728) * 10723151780598845931))
      (IntKind.u64.wrap (bits BinOp.xor IntKind.u64 (IntKind.u64.wrap (bits BinOp.xor IntKind.u64 (IntKind.u64.wrap ((s : Int) + 11400714819323198485)) (IntKind.u64.wrap ((s : Int) + 11400714819323198485) / 1073741824) * 13787848793156543929))
        (IntKind.u64.wrap (bits BinOp.xor IntKind.u64 (IntKind.u64.wrap ((s : Int) + 11400714819323198485)) (IntKind.u64.wrap ((s : Int) + 11400714819323198485) / 1073741824) * 13787848793156543929) / 134217728) * 10723151780598845931) / 2147483648) = ((mix (nx s) : Nat) : Int) := by
  have x1 : bits BinOp.xor IntKind.u64 ((nx s : Nat) : Int) (((nx s : Nat) : Int) / 1073741824) = ((nx s ^^^ nx s / 1073741824 : Nat) : Int) := xor_sh (nx s) 1073741824 (nx_lt s)
  have x2 : bits BinOp.xor IntKind.u64 ((mx1 (nx s) : Nat) : Int) (((mx1 (nx s) : Nat) : Int) / 134217728) = ((mx1 (nx s) ^^^ mx1 (nx s) / 134217728 : Nat) : Int) := xor_sh (mx1 (nx s)) 134217728 (mx1_lt _)
  have x3 : bits BinOp.xor IntKind.u64 ((mx2 (mx1 (nx s)) : Nat) : Int) (((mx2 (mx1 (nx s)) : Nat) : Int) / 2147483648) = ((mix (nx s) : Nat) : Int) := xor_sh (mx2 (mx1 (nx s))) 2147483648 (mx2_lt _)
  have y1' : IntKind.u64.wrap (((nx s ^^^ nx s / 1073741824 : Nat) : Int) * 13787848793156543929) = ((mx1 (nx s) : Nat) : Int) := wrap_mul (nx s ^^^ nx s / 1073741824) 13787848793156543929
  have y2' : IntKind.u64.wrap (((mx1 (nx s) ^^^ mx1 (nx s) / 134217728 : Nat) : Int) * 10723151780598845931) = ((mx2 (mx1 (nx s)) : Nat) : Int) := wrap_mul (mx1 (nx s) ^^^ mx1 (nx s) / 134217728) 10723151780598845931
  rw [wrap_add, x1, y1', x2, y2', x3]
theorem ret_u64 {a b : Int} (h : a = b) : Ending.returned (.int .u64 a) = .returned (.int .u64 b) := by rw [h]
theorem next_walk (s b : Nat) (w : World) (hb : BlN w b s) : Calls Try.prog 9 #[.pointer (some ⟨b, 0, none⟩)] w (fun e w' => e = .returned (.int .u64 (mix (nx s) : Nat)) ∧ BlN w' b (nx s) ∧ One b w w') := by
  have c0 := hb.cell
  have f0 := hb.frozen
  have M := Lib.hid (mix_form s)
  have A := Lib.hid (wrap_add s)
  have B := Lib.hid hb
  clear hb
  go_enter Try.func9, Try.ntmps9
  go_wp2
  go_ret
  exact ⟨ret_u64 M.out, B.out.set (by rw [A.out])⟩
theorem new_walk (s : Nat) (w : World) : Calls Try.prog 8 #[.int .u64 s] w (fun e w' => e = .returned (.pointer (some ⟨w.heap.size, 0, none⟩)) ∧ BlN w' w.heap.size s ∧ Below w.heap.size w w' ∧ w'.heap.size = w.heap.size + 1) := by
  go_enter Try.func8, Try.ntmps8
  go_wp2
  go_ret
  exact ⟨rfl, BlN.new w s, (Below.refl _ _).alloc (Nat.le_refl _) _, by simp⟩
theorem state_walk (s b : Nat) (w : World) (hb : BlN w b s) : Calls Try.prog 11 #[.pointer (some ⟨b, 0, none⟩)] w (fun e w' => e = .returned (.int .u64 s) ∧ w = w') := by
  have c0 := hb.cell
  clear hb
  go_enter Try.func11, Try.ntmps11
  go_wp2
  go_ret
  exact ⟨rfl, rfl⟩
theorem skip_form (s n : Nat) : IntKind.u64.wrap ((s : Int) + IntKind.u64.wrap ((n : Int) * 11400714819323198485)) = ((skp s n : Nat) : Int) := by
  rw [IntKind.wrap_u64, IntKind.wrap_u64]; unfold skp GOLD; omega
theorem skip_walk (s n b : Nat) (w : World) (hb : BlN w b s) : Calls Try.prog 10 #[.pointer (some ⟨b, 0, none⟩), .int .u64 n] w (fun e w' => e = .returned (.tuple #[]) ∧ BlN w' b (skp s n) ∧ One b w w') := by
  have c0 := hb.cell
  have f0 := hb.frozen
  have A := Lib.hid (skip_form s n)
  have B := Lib.hid hb
  clear hb
  go_enter Try.func10, Try.ntmps10
  go_wp2
  go_end0
  exact ⟨rfl, B.out.set (by rw [A.out])⟩

/-- the float of a number below 2^53, by 2^-53 -/
def flt (m : Nat) : Nat := if m = 0 then 0 else floatOfInt .f64 m - 238690780250636288
theorem norm_of_ev {w : Nat} (hl : w < 2 ^ 64) (hs : sgn w = false) (hn : ¬ Nan w) (h1 : 1 ≤ ev w) (h2 : ev w < ((9007199254740992 : Nat) : Rat)) : 4607182418800017408 ≤ w ∧ w < 4845873199050653696 := by
  have hr : rg w = w := by unfold sgn SGN at hs; unfold rg SGN; simp at hs; omega
  have e1 : ev w = mg w := by unfold ev; rw [hs, hr]; rfl
  have o1 : mg 4607182418800017408 = 1 := by kernel_rfl
  have o2 : mg 4845873199050653696 = ((9007199254740992 : Nat) : Rat) := by kernel_rfl
  rw [e1] at h1 h2
  constructor
  · apply Decidable.byContradiction
    intro h
    have := mg_lt (show w < 4607182418800017408 by omega)
    grind
  · rw [← o2, mg_lt_iff] at h2
    exact h2
theorem flt_norm {m : Nat} (h0 : m ≠ 0) (h : m < 2 ^ 53) : Norm (floatOfInt .f64 m) ∧ (flt m : Int) = (floatOfInt .f64 m : Nat) + (-53) * 2 ^ 52 ∧ Norm (flt m) ∧ flt m < 4607182418800017408 := by
  obtain ⟨⟨vn, ve⟩, vl, vs⟩ := V.ofInt (n := (m : Int)) (by omega)
  have hm := norm_of_ev vl (by rw [vs]; simp) vn.not_nan (by rw [ve]; exact Rat.intCast_le_intCast.2 (show (1 : Int) ≤ m by omega)) (by rw [ve]; exact Rat.intCast_lt_intCast.2 (show (m : Int) < (9007199254740992 : Int) by omega))
  have : flt m = floatOfInt .f64 m - 238690780250636288 := by unfold flt; rw [if_neg h0]
  unfold Norm INF
  rw [this]
  omega
theorem float_walk (s b : Nat) (w : World) (hb : BlN w b s) : Calls Try.prog 16 #[.pointer (some ⟨b, 0, none⟩)] w (fun e w' => e = .returned (.float .f64 (flt (mix (nx s) / 2048))) ∧ BlN w' b (nx s) ∧ One b w w') := by
  have hm : mix (nx s) / 2048 < 2 ^ 53 := by have := mix_lt (nx s); omega
  by_cases h0 : mix (nx s) / 2048 = 0
  · have hz : floatOfInt .f64 0 = 0 := by decide +kernel
    have hf : flt 0 = 0 := rfl
    have hq : ((mix (nx s) : Nat) : Int) / 2048 = 0 := by omega
    rw [h0, hf]
    go_enter Try.func16, Try.ntmps16
    go_wp2_with (first | (go_at_call 9; refine (next_walk s b _ hb).mono ?_; rintro e w1 ⟨rfl, h1, h2⟩) | (go_at_call 22; refine (Ldexp_zero _ _).mono ?_; rintro e w2 ⟨rfl, rfl⟩))
    go_ret
    exact ⟨rfl, h1, h2⟩
  · obtain ⟨n1, n2, n3, _⟩ := flt_norm h0 hm
    have hq : ((mix (nx s) : Nat) : Int) / 2048 = ((mix (nx s) / 2048 : Nat) : Int) := by omega
    generalize mix (nx s) / 2048 = m at *
    go_enter Try.func16, Try.ntmps16
    go_wp2_with (first | (go_at_call 9; refine (next_walk s b _ hb).mono ?_; rintro e w1 ⟨rfl, h1, h2⟩) | (go_at_call 22; refine (Ldexp_walk _ _ _ n1 _ n2 n3).mono ?_; rintro e w2 ⟨rfl, h3⟩))
    go_ret
    exact ⟨rfl, h1.stay h3, h2.trans (One.of h3)⟩

def fl1 (s : Nat) : Nat := flt (mix (nx s) / 2048)
def sumF (s : Nat) : Nat → Nat
  | 0 => fl1 s
  | k + 1 => fadd (sumF s k) (fl1 (skp s (k + 1)))
def bellF (s : Nat) : Nat := fsub (sumF s 11) 4618441417868443648
/-- from nought to k -/
def Bd (v : Nat) (k : Nat) : Prop := Lk.Fin v ∧ 0 ≤ ev v ∧ ev v ≤ ((k : Int) : Rat)
theorem fl1_bd (s : Nat) : Bd (fl1 s) 1 := by
  have hm : mix (nx s) / 2048 < 2 ^ 53 := by have := mix_lt (nx s); omega
  unfold fl1
  generalize mix (nx s) / 2048 = m at *
  by_cases h0 : m = 0
  · subst h0
    exact ⟨by decide +kernel, by decide +kernel, by decide +kernel⟩
  · obtain ⟨_, _, h3, h4⟩ := flt_norm h0 hm
    refine ⟨h3.fin, ev_nonneg_of_sgn h3.sgn, ?_⟩
    have o1 : ev 4607182418800017408 = 1 := by kernel_rfl
    have := (ev_nat_lt h3 (show Norm 4607182418800017408 by unfold Norm INF; omega)).2 h4
    rw [o1] at this
    show _ ≤ (1 : Rat)
    grind
theorem Bd.add {a b i j : Nat} (ha : Bd a i) (hb : Bd b j) (h : i + j ≤ 2 ^ 53) : Bd (fadd a b) (i + j) := by
  obtain ⟨f1, l1, u1⟩ := ha
  obtain ⟨f2, l2, u2⟩ := hb
  obtain ⟨g1, g2, g3, _⟩ := fadd_fin f1 f2
  have e : ((((i + j : Nat) : Int)) : Rat) = ((i : Int) : Rat) + ((j : Int) : Rat) := by rw [← Rat.intCast_add]; rfl
  have hu : ev (fadd a b) ≤ (((i + j : Nat) : Int) : Rat) := by
    rw [g3, ← rc_int (n := ((i + j : Nat) : Int)) (by omega)]
    exact rc_mono (by rw [e]; grind)
  have hl : 0 ≤ ev (fadd a b) := by rw [g3]; exact rc_nonneg (by grind)
  refine ⟨?_, hl, hu⟩
  rcases not_nan g2 with h | h
  · exact h
  · have hp := (int_lt_p2 (n := ((i + j : Nat) : Int)) (by omega)).2
    have h0 := p2_pos 1024
    rcases inf_ev h with k | k <;> rw [k] at hu hl <;> grind
theorem sumF_bd (s : Nat) : ∀ k, k ≤ 11 → Bd (sumF s k) (k + 1)
  | 0, _ => fl1_bd s
  | k + 1, h => (sumF_bd s k (by omega)).add (fl1_bd _) (by omega)
theorem bell_fin (s : Nat) : ¬ Nan (bellF s) := (fsub_fin (sumF_bd s 11 (by decide)).1 (by decide +kernel)).2.1
set_option maxHeartbeats 1000000 in
theorem bell_walk (s b : Nat) (w : World) (hs : s < 2 ^ 64) (hb : BlN w b s) : Calls Try.prog 12 #[.pointer (some ⟨b, 0, none⟩)] w (fun e w' => e = .returned (.float .f64 (bellF s)) ∧ BlN w' b (skp s 12) ∧ One b w w') := by
  go_enter Try.func12, Try.ntmps12
  go_wp2_with (go_at_call 16; refine (float_walk s b _ hb).mono ?_; rintro e w1 ⟨rfl, h1, h2⟩)
  go_loopw [3, 8] (fun v i wr => ∃ k : Nat, k ≤ 11 ∧ i = .int .i64 k ∧ v = .float .f64 (sumF s k) ∧ BlN wr b (skp s (k + 1)) ∧ One b w wr) (fun _ i _ => 11 - (intOf i).toNat)
  case atStart => exact ⟨0, by omega, rfl, rfl, by rw [← nx_skp, skp_zero hs]; exact h1, h2⟩
  case round =>
    obtain ⟨k, hk, rfl, rfl, hbk, ho⟩ := hrel
    clear h1 h2
    have HE : ∀ v, Is v (fop BinOp.add (sumF s k) (flt (mix (nx (skp s (k + 1))) / 2048))) → k < 11 → v = sumF s (k + 1) := fun v hv hlt => hv.eq (sumF_bd s (k + 1) (by omega)).1.not_nan
    have HS : ∀ v, Is v (fop BinOp.sub (sumF s k) 4618441417868443648) → ¬ k < 11 → v = bellF s := fun v hv hlt => by
      obtain rfl : k = 11 := by omega
      exact hv.eq (bell_fin s)
    by_cases hlt : k < 11
    · go_wp2_with (first | (go_at_call 16; refine (float_walk (skp s (k + 1)) b _ hbk).mono ?_; rintro e w1 ⟨rfl, h1, h2⟩) | (((with_reducible refine wpList_float (x := ?_) (y := ?_) (X := ?_) (Y := ?_) rfl rfl ?_ ?_ ?_ ?_ ?_ ?_); (· rfl); (rotate_left 4); (· rfl); (· rfl); (· first | assumption | exact Is.refl _); (· first | assumption | exact Is.refl _); intro v n hv hl); obtain rfl := HE _ hv hlt))
      go_roundw
      case rel => exact ⟨k + 1, by omega, by go_num, rfl, by rw [← nx_skp]; exact h1, (ho.trans h2).drew _⟩
      case measure => simp [intOf]; omega
    · go_wp2_with (((with_reducible refine wpList_float (x := ?_) (y := ?_) (X := ?_) (Y := ?_) rfl rfl ?_ ?_ ?_ ?_ ?_ ?_); (· rfl); (rotate_left 4); (· rfl); (· rfl); (· first | assumption | exact Is.refl _); (· first | assumption | exact Is.refl _); intro v n hv hl); obtain rfl := HS _ hv hlt)
      go_ret
      obtain rfl : k = 11 := by omega
      exact ⟨rfl, hbk, ho.drew _⟩

theorem works_walk (w : World) : Calls Try.prog 7 #[] w (fun e w' => e = .returned (.bool true) ∧ Below w.heap.size w w') := by
  have k1 : mix (nx 0) = 16294208416658607535 := by decide +kernel
  have k2 : mix (nx (nx 0)) = 7960286522194355700 := by decide +kernel
  have k3 : mix (nx (nx (nx 0))) = 487617019471545679 := by decide +kernel
  have k4 : (FloatKind.f64.format.order (flt (16294208416658607535 / 2048)) 4606131278646989134 == some Ordering.gt) = true := by decide +kernel
  have k5 : (FloatKind.f64.format.order (flt (16294208416658607535 / 2048)) 4606132179366914608 == some Ordering.lt) = true := by decide +kernel
  go_enter Try.func7, Try.ntmps7
  go_wp2_with fail
  refine (new_walk 0 _).mono ?_; rintro e w1 ⟨rfl, b1, o1, z1⟩
  go_wp2_with fail
  refine (next_walk _ _ _ b1).mono ?_; rintro e w2 ⟨rfl, b2, o2⟩
  rw [k1]
  go_wp2_with fail
  refine (next_walk _ _ _ b2).mono ?_; rintro e w3 ⟨rfl, b3, o3⟩
  rw [k2]
  go_wp2_with fail
  refine (new_walk 0 _).mono ?_; rintro e w4 ⟨rfl, b4, o4, z4⟩
  go_wp2_with fail
  refine (float_walk _ _ _ b4).mono ?_; rintro e w5 ⟨rfl, b5, o5⟩
  rw [k1]
  have b6 : BlN w5 w.heap.size (nx (nx 0)) := (b3.stay o4).keep o5 (by have := b3.lt; omega)
  go_wp2_with fail
  refine (next_walk _ _ _ b6).mono ?_; rintro e w7 ⟨rfl, b7, o7⟩
  rw [k3]
  go_wp2_with fail
  go_ret
  have s2 := o2.size
  have s3 := o3.size
  have s4 := o4.size
  have s5 := o5.size
  have B : w.heap.size ≤ w3.heap.size := by omega
  refine ⟨rfl, ?_⟩
  exact ((((o1.trans (o2.below (Nat.le_refl _) (by omega))).trans (o3.below (Nat.le_refl _) (by omega))).trans (o4.mono B)).trans (o5.below B (by omega))).trans (o7.below (Nat.le_refl _) (by omega))
end Go.Proofs.Ythdpkmdkoldneaa
