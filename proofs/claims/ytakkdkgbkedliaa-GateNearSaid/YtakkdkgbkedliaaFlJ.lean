import Derived.Test.YtakkdkgbkedliaaFlI
set_option autoImplicit false
set_option linter.unusedVariables false
namespace Lk
open Ieee Go
/-! cutting towards nought, and the part behind the point -/
def trc (x : Nat) : Nat := FloatKind.f64.encode ((FloatKind.f64.decode x).integral .zero)
theorem ev_mul_sgn (x : Nat) : ev x = sv (sgn x) (mg (rg x)) := rfl
/-- every float is so many of the smallest -/
theorem ev_grid {x : Nat} : ∃ k : Int, ev x = (k : Rat) * p2 (-1074) := by
  have hp : ∃ n : Nat, mg (rg x) = (n : Rat) * p2 (-1074) := by
    obtain ⟨j, hj⟩ : ∃ j : Nat, pl (rg x) = -1074 + (j : Int) := by
      unfold pl; split
      · exact ⟨0, by simp⟩
      · exact ⟨_, rfl⟩
    refine ⟨nm (rg x) * 2 ^ j, ?_⟩
    unfold mg
    rw [hj, p2_add, p2_nat]
    push_cast
    grind
  obtain ⟨n, hn⟩ := hp
  rw [ev_mul_sgn]
  cases sgn x
  · exact ⟨(n : Int), by rw [Rat.intCast_natCast]; exact hn⟩
  · exact ⟨-(n : Int), by rw [Rat.intCast_neg, Rat.intCast_natCast]; simp only [sv, if_true]; rw [hn]; grind⟩
theorem mg_one : mg 1 = p2 (-1074) := by
  unfold mg nm pl; simp
/-- a sum or a difference that is not nought is not rounded to nought -/
theorem rc_ne {y : Rat} {k : Int} (h : y = (k : Rat) * p2 (-1074)) (h0 : y ≠ 0) : (0 < y → 0 < rc y) ∧ (y < 0 → rc y < 0) := by
  have hp := p2_pos (-1074)
  have e1 : ev 1 = p2 (-1074) := by rw [ev_mul_sgn, show sgn 1 = false by decide, show rg 1 = 1 by decide]; exact mg_one
  have r1 : rc (p2 (-1074)) = p2 (-1074) := by rw [← e1]; exact rc_ev 1 (by decide)
  constructor
  · intro hy
    have hk : 1 ≤ k := by
      apply Decidable.byContradiction
      intro hc
      have : (k : Rat) ≤ ((0 : Int) : Rat) := Rat.intCast_le_intCast.2 (by omega)
      have := Rat.mul_le_mul_of_nonneg_right this (Rat.le_of_lt hp)
      rw [← h] at this
      have e : ((0 : Int) : Rat) * p2 (-1074) = 0 := by simp
      rw [e] at this
      grind
    have h1 : ((1 : Int) : Rat) ≤ (k : Rat) := Rat.intCast_le_intCast.2 hk
    have h2 := Rat.mul_le_mul_of_nonneg_right h1 (Rat.le_of_lt hp)
    rw [← h, show ((1 : Int) : Rat) = 1 from rfl, Rat.one_mul] at h2
    have := rc_mono h2
    rw [r1] at this
    grind
  · intro hy
    have hk : k ≤ -1 := by
      apply Decidable.byContradiction
      intro hc
      have : ((0 : Int) : Rat) ≤ (k : Rat) := Rat.intCast_le_intCast.2 (by omega)
      have := Rat.mul_le_mul_of_nonneg_right this (Rat.le_of_lt hp)
      rw [← h] at this
      have e : ((0 : Int) : Rat) * p2 (-1074) = 0 := by simp
      rw [e] at this
      grind
    have h1 : (k : Rat) ≤ ((-1 : Int) : Rat) := Rat.intCast_le_intCast.2 hk
    have h2 := Rat.mul_le_mul_of_nonneg_right h1 (Rat.le_of_lt hp)
    have e2 : ((-1 : Int) : Rat) * p2 (-1074) = -(p2 (-1074)) := by rw [show ((-1 : Int) : Rat) = -1 from rfl]; grind
    rw [← h, e2] at h2
    have := rc_mono h2
    rw [rc_neg, r1] at this
    grind
theorem sub_sign {a b : Nat} (ha : Fin a) (hb : Fin b) : (ev a = ev b → ev (fsub a b) = 0) ∧ (ev b < ev a → 0 < ev (fsub a b)) ∧ (ev a < ev b → ev (fsub a b) < 0) := by
  obtain ⟨_, _, h3, _⟩ := fsub_fin ha hb
  obtain ⟨i, hi⟩ := @ev_grid a
  obtain ⟨j, hj⟩ := @ev_grid b
  have hg : ev a - ev b = ((i - j : Int) : Rat) * p2 (-1074) := by rw [hi, hj, Rat.intCast_sub]; grind
  rw [h3]
  refine ⟨fun h => ?_, fun h => ?_, fun h => ?_⟩
  · rw [show ev a - ev b = 0 by grind, rc_zero]
  · exact (rc_ne hg (by grind)).1 (by grind)
  · exact (rc_ne hg (by grind)).2 (by grind)
/-- nought is added: a nought loses its sign -/
theorem add_nought {s : Nat} (hs : Fin s) (hl : s < 2 ^ 64) : fadd s 0 = if ev s = 0 then 0 else s := by
  have z0 : ev 0 = 0 := by kernel_rfl
  obtain ⟨h1, h2, h3, h4⟩ := fadd_fin hs (show Fin 0 by decide +kernel)
  rw [z0, Rat.add_zero] at h3 h4
  rw [rc_ev s hs.not_nan] at h3
  by_cases h0 : ev s = 0
  · rw [if_pos h0]
    rw [if_pos h0] at h4
    refine word_inj h1 (by omega) (by rw [h3, h0, z0]) ?_
    rw [h4, show sgn 0 = false by decide]; simp
  · rw [if_neg h0]
    rw [if_neg h0] at h4
    refine word_inj h1 hl h3 ?_
    rw [h4]
    cases hg : sgn s
    · have := ev_nonneg_of_sgn hg
      exact decide_eq_false (by grind)
    · have := ev_nonpos_of_sgn hg
      exact decide_eq_true (by grind)
theorem trc_word {x : Nat} (hf : Fin x) : ∃ z : Nat, trc x < 2 ^ 64 ∧ ¬ Nan (trc x) ∧ sgn (trc x) = sgn x ∧ ev (trc x) = rc (sv (sgn x) (z : Rat)) ∧ (z : Rat) ≤ mg (rg x) ∧ mg (rg x) < (z : Rat) + 1 ∧
    z = (nm (rg x) <<< (pl (rg x)).toNat) / 2 ^ (-pl (rg x)).toNat := by
  have hr : FloatKind.f64.decode x = .number (sgn x) (nm (rg x)) (pl (rg x)) := read_fin hf
  obtain ⟨z, r, D, h1, h2, h3, h4, h5, h6⟩ := zc_spec (nm (rg x)) (pl (rg x))
  obtain ⟨c, c1, c2, c3, c4, c5⟩ := write_number (sgn x) z 0
  have hD : (0 : Rat) < (D : Rat) := by exact_mod_cast (show 0 < D by omega)
  have hm : mg (rg x) = (nm (rg x) : Rat) * p2 (pl (rg x)) := rfl
  rw [← hm] at h6
  have hr0 : (0 : Rat) ≤ (r : Rat) := Rat.natCast_nonneg
  have hrD : (r : Rat) < (D : Rat) := by exact_mod_cast h3
  have ht : trc x = c := by
    unfold trc
    rw [hr]
    show double.write (.number (sgn x) (Toward.zero.cut (sgn x) (nm (rg x) <<< (pl (rg x)).toNat) (-pl (rg x)).toNat) 0) = c
    rw [cut_zero, ← h4]; exact c1
  rw [ht]
  refine ⟨z, c2, c3, c4, by rw [c5, p2_zero, Rat.mul_one], ?_, ?_, h4⟩
  · apply Decidable.byContradiction
    intro hc
    have : mg (rg x) * (D : Rat) < (z : Rat) * (D : Rat) := Rat.mul_lt_mul_of_pos_right (by grind) hD
    grind
  · apply Decidable.byContradiction
    intro hc
    have : ((z : Rat) + 1) * (D : Rat) ≤ mg (rg x) * (D : Rat) := Rat.mul_le_mul_of_nonneg_right (by grind) (by grind)
    grind
theorem sv_mono {s : Bool} {a b : Rat} (h : a ≤ b) : if s then sv s b ≤ sv s a else sv s a ≤ sv s b := by
  cases s <;> simp only [sv, if_true, if_false, Bool.false_eq_true] <;> grind
/-- what is cut lies between nought and x -/
theorem trc_between {x : Nat} (hf : Fin x) : Fin (trc x) ∧ (sgn x = false → 0 ≤ ev (trc x) ∧ ev (trc x) ≤ ev x) ∧ (sgn x = true → ev x ≤ ev (trc x) ∧ ev (trc x) ≤ 0) := by
  obtain ⟨z, t1, t2, t3, t4, t5, t6, _⟩ := trc_word hf
  have hz : (0 : Rat) ≤ (z : Rat) := Rat.natCast_nonneg
  have hx := rc_ev x hf.not_nan
  have hxe := ev_mul_sgn x
  have hfin := fin_iff.1 hf
  cases hs : sgn x
  · rw [hs] at t4 hxe
    simp only [sv, Bool.false_eq_true, if_false] at t4 hxe
    have a : 0 ≤ ev (trc x) := by rw [t4]; exact rc_nonneg hz
    have b : ev (trc x) ≤ ev x := by rw [t4, ← hx]; exact rc_mono (by rw [hxe]; exact t5)
    have hneg : ev NMAXF ≤ 0 := by rw [ev_nmax]; have := mg_nonneg (INF - 1); grind
    exact ⟨fin_iff.2 ⟨t2, by grind, by grind⟩, fun _ => ⟨a, b⟩, (fun h => by cases h)⟩
  · rw [hs] at t4 hxe
    simp only [sv, if_true] at t4 hxe
    have a : ev (trc x) ≤ 0 := by rw [t4]; exact rc_nonpos (by grind)
    have b : ev x ≤ ev (trc x) := by rw [t4, ← hx]; exact rc_mono (by rw [hxe]; grind)
    have hpos : 0 ≤ ev MAXF := by rw [ev_max]; exact mg_nonneg _
    exact ⟨fin_iff.2 ⟨t2, by grind, by grind⟩, (fun h => by cases h), fun _ => ⟨b, a⟩⟩
theorem trc_pos {x : Nat} (hf : Fin x) (h : clt x 0 = false) : trc x = flr x := by
  have hr : FloatKind.f64.decode x = .number (sgn x) (nm (rg x)) (pl (rg x)) := read_fin hf
  unfold trc flr
  rw [hr]
  show FloatKind.f64.encode (.number (sgn x) (Toward.zero.cut (sgn x) (nm (rg x) <<< (pl (rg x)).toNat) (-pl (rg x)).toNat) 0) = FloatKind.f64.encode (.number (sgn x) (Toward.down.cut (sgn x) (nm (rg x) <<< (pl (rg x)).toNat) (-pl (rg x)).toNat) 0)
  rw [cut_zero, cut_down]
  cases hs : sgn x
  · simp
  · have h0 : ev x = 0 := by
      have h1 := ev_nonpos_of_sgn hs
      apply Decidable.byContradiction
      intro hc
      have : clt x 0 = true := clt_iff.2 ⟨hf.not_nan, by decide +kernel, by rw [show ev 0 = 0 by kernel_rfl]; grind⟩
      rw [this] at h; cases h
    have h1 : mg (rg x) = 0 := by rw [ev_mul_sgn, hs] at h0; simp only [sv, if_true] at h0; grind
    have h2 : nm (rg x) = 0 := by
      unfold mg at h1
      have hp := p2_pos (pl (rg x))
      rcases Rat.mul_eq_zero.1 h1 with h | h
      · exact_mod_cast h
      · grind
    rw [h2]; simp
theorem wd_self {d : Nat} (h : d < 2 ^ 64) : wd (sgn d) (rg d) = d := by
  unfold wd sgn rg SGN
  have h1 : d / 9223372036854775808 = 0 ∨ d / 9223372036854775808 = 1 := by omega
  rcases h1 with h1 | h1 <;> rw [h1] <;> simp <;> omega
theorem trc_neg {x : Nat} (hf : Fin x) (h : clt x 0 = true) : trc x = fneg (flr (fneg x)) ∧ ¬ Nan (flr (fneg x)) ∧ flr (fneg x) < 2 ^ 64 := by
  have hs : sgn x = true := by
    cases hs : sgn x
    · have h1 := ev_nonneg_of_sgn hs
      have h2 := (clt_iff.1 h).2.2
      rw [show ev 0 = 0 by kernel_rfl] at h2
      grind
    · rfl
  obtain ⟨z, t1, t2, t3, t4, _, _, t7⟩ := trc_word hf
  have hr : FloatKind.f64.decode (fneg x) = .number false (nm (rg x)) (pl (rg x)) := by
    have := read_fin (fin_fneg.2 hf)
    rw [sgn_fneg, rg_fneg, hs] at this
    exact this
  obtain ⟨c, c1, c2, c3, c4, c5⟩ := write_number false z 0
  have hfl : flr (fneg x) = c := by
    unfold flr
    rw [hr]
    show double.write (.number false (Toward.down.cut false (nm (rg x) <<< (pl (rg x)).toNat) (-pl (rg x)).toNat) 0) = c
    rw [cut_down, ← t7]; simpa using c1
  rw [hfl]
  refine ⟨?_, c3, c2⟩
  refine word_inj t1 ?_ ?_ ?_
  · unfold fneg
    refine wd_lt _ ?_
    unfold Nan at c3; omega
  · rw [t4, ev_fneg, c5, hs, p2_zero, Rat.mul_one]
    simp only [sv, if_true, if_false, Bool.false_eq_true]
    rw [rc_neg]
  · rw [t3, sgn_fneg, c4, hs]; rfl

def HALFW : Nat := 4602678819172646912
def NHALFW : Nat := 13826050856027422720
def ONEW : Nat := 4607182418800017408
/-- a turn's part: as the document says -/
def wrp (x : Nat) : Nat := if cge (fsub x (trc x)) 4602678819172646912 then fsub (fsub x (trc x)) 4607182418800017408 else if clt (fsub x (trc x)) 13826050856027422720 then fadd (fsub x (trc x)) 4607182418800017408 else fsub x (trc x)
/-- .. and as the program says, ahead of its last nought -/
def wri (r : Nat) : Nat := if cge r 4602678819172646912 then fsub r 4607182418800017408 else if clt r 13826050856027422720 then fadd r 4607182418800017408 else r
theorem frac {x : Nat} (hf : Fin x) (hl : x < 2 ^ 64) : Fin (fsub x (trc x)) ∧ fsub x (trc x) < 2 ^ 64 ∧ (ev (fsub x (trc x)) = 0 → fsub x (trc x) = 0) ∧ (ev (fsub x (trc x)) ≠ 0 → wd (sgn x) (rg (fsub x (trc x))) = fsub x (trc x)) := by
  obtain ⟨ft, b1, b2⟩ := trc_between hf
  obtain ⟨_, _, _, ts, _⟩ := trc_word hf |>.choose_spec |> fun h => (⟨h.1, h.2.1, trivial, h.2.2.1, trivial⟩ : _ ∧ _ ∧ True ∧ _ ∧ True)
  obtain ⟨d1, d2, d3, d4⟩ := fsub_fin hf ft
  obtain ⟨s1, s2, s3⟩ := sub_sign hf ft
  have hfin := fin_iff.1 hf
  have hx := rc_ev x hf.not_nan
  have hpos : 0 ≤ ev MAXF := by rw [ev_max]; exact mg_nonneg _
  have hneg : ev NMAXF ≤ 0 := by rw [ev_nmax]; have := mg_nonneg (INF - 1); grind
  have hfd : Fin (fsub x (trc x)) := by
    cases hs : sgn x
    · obtain ⟨a1, a2⟩ := b1 hs
      have u : ev (fsub x (trc x)) ≤ ev x := by rw [d3, ← hx]; refine Rat.le_trans (rc_mono (y := ev x) (by grind)) ?_; rw [hx]; exact Rat.le_refl
      have l : 0 ≤ ev (fsub x (trc x)) := by rw [d3]; exact rc_nonneg (by grind)
      exact fin_iff.2 ⟨d2, by grind, by grind⟩
    · obtain ⟨a1, a2⟩ := b2 hs
      have u : ev x ≤ ev (fsub x (trc x)) := by rw [d3]; refine Rat.le_trans ?_ (rc_mono (x := ev x) (by grind)); rw [hx]; exact Rat.le_refl
      have l : ev (fsub x (trc x)) ≤ 0 := by rw [d3]; exact rc_nonpos (by grind)
      exact fin_iff.2 ⟨d2, by grind, by grind⟩
  refine ⟨hfd, d1, fun h0 => ?_, fun h0 => ?_⟩
  · have he : ev x = ev (trc x) := by
      apply Decidable.byContradiction
      intro hc
      by_cases h : ev x < ev (trc x)
      · have := s3 h; grind
      · have := s2 (by grind); grind
    rw [if_pos (by grind), ts] at d4
    refine word_inj d1 (by omega) (by rw [h0]; kernel_rfl) ?_
    rw [d4, show sgn 0 = false by decide]; cases sgn x <;> rfl
  · have hsd : sgn (fsub x (trc x)) = sgn x := by
      cases hs : sgn x
      · obtain ⟨a1, a2⟩ := b1 hs
        cases hd : sgn (fsub x (trc x))
        · rfl
        · have := ev_nonpos_of_sgn hd
          have l : 0 ≤ ev (fsub x (trc x)) := by rw [d3]; exact rc_nonneg (by grind)
          grind
      · obtain ⟨a1, a2⟩ := b2 hs
        cases hd : sgn (fsub x (trc x))
        · have := ev_nonneg_of_sgn hd
          have l : ev (fsub x (trc x)) ≤ 0 := by rw [d3]; exact rc_nonpos (by grind)
          grind
        · rfl
    rw [← hsd]; exact wd_self d1
theorem sub_one_word {d : Nat} (hf : Fin d) (h : cge d 4602678819172646912 = true) : fadd (fsub d 4607182418800017408) 0 = fsub d 4607182418800017408 ∧ ¬ Nan (fsub d 4607182418800017408) ∧ Fin (fsub d 4607182418800017408) := by
  have f1 : Fin 4607182418800017408 := by decide +kernel
  have o1 : ev 4607182418800017408 = 1 := by kernel_rfl
  have oh : ev 4602678819172646912 = 1 / 2 := by kernel_rfl
  have hd : 1 / 2 ≤ ev d := by have := (cge_iff.1 h).2.2; rwa [oh] at this
  obtain ⟨s1, s2, s3, s4⟩ := fsub_fin hf f1
  obtain ⟨g1, g2, g3⟩ := sub_sign hf f1
  have hx := rc_ev d hf.not_nan
  have hfin := fin_iff.1 hf
  have hneg : ev NMAXF ≤ -1 := by decide +kernel
  have u : ev (fsub d 4607182418800017408) ≤ ev d := by rw [s3]; refine Rat.le_trans (rc_mono (y := ev d) (by rw [o1]; grind)) ?_; rw [hx]; exact Rat.le_refl
  have l : -1 ≤ ev (fsub d 4607182418800017408) := by
    rw [s3]
    have : rc (-1) = -1 := by have := rc_int (n := -1) (by decide); simpa using this
    rw [← this]; exact rc_mono (by rw [o1]; grind)
  have hfs : Fin (fsub d 4607182418800017408) := fin_iff.2 ⟨s2, by grind, by grind⟩
  refine ⟨?_, s2, hfs⟩
  rw [add_nought hfs s1]
  split
  · rename_i h0
    have he : ev d - ev 4607182418800017408 = 0 := by
      apply Decidable.byContradiction
      intro hc
      by_cases hlt : ev d < ev 4607182418800017408
      · have := g3 hlt; grind
      · have := g2 (by grind); grind
    rw [if_pos he] at s4
    refine (word_inj s1 (by omega) (by rw [h0]; kernel_rfl) ?_).symm
    rw [s4]
    have : sgn d = false := by
      cases hs : sgn d
      · rfl
      · have := ev_nonpos_of_sgn hs; grind
    rw [this]; rfl
  · rfl
theorem add_one_word {d : Nat} (hf : Fin d) (h : clt d 13826050856027422720 = true) : fadd (fadd d 4607182418800017408) 0 = fadd d 4607182418800017408 ∧ ¬ Nan (fadd d 4607182418800017408) ∧ Fin (fadd d 4607182418800017408) := by
  have f1 : Fin 4607182418800017408 := by decide +kernel
  have f2 : Fin 13830554455654793216 := by decide +kernel
  have o1 : ev 4607182418800017408 = 1 := by kernel_rfl
  have o2 : ev 13830554455654793216 = -1 := by kernel_rfl
  have oh : ev 13826050856027422720 = -(1 / 2) := by kernel_rfl
  have hd : ev d < -(1 / 2) := by have := (clt_iff.1 h).2.2; rwa [oh] at this
  obtain ⟨s1, s2, s3, s4⟩ := fadd_fin hf f1
  obtain ⟨g1, g2, g3⟩ := sub_sign hf f2
  have hsame : ev (fsub d 13830554455654793216) = ev (fadd d 4607182418800017408) := by
    rw [(fsub_fin hf f2).2.2.1, s3, o1, o2]; congr 1; grind
  rw [hsame, o2] at g1 g2 g3
  have hx := rc_ev d hf.not_nan
  have hfin := fin_iff.1 hf
  have hpos : 1 ≤ ev MAXF := by decide +kernel
  have u : ev d ≤ ev (fadd d 4607182418800017408) := by rw [s3]; refine Rat.le_trans ?_ (rc_mono (x := ev d) (by rw [o1]; grind)); rw [hx]; exact Rat.le_refl
  have l : ev (fadd d 4607182418800017408) ≤ 1 := by
    rw [s3]
    have : rc 1 = 1 := by have := rc_int (n := 1) (by decide); simpa using this
    rw [← this]; exact rc_mono (by rw [o1]; grind)
  have hfs : Fin (fadd d 4607182418800017408) := fin_iff.2 ⟨s2, by grind, by grind⟩
  refine ⟨?_, s2, hfs⟩
  rw [add_nought hfs s1]
  split
  · rename_i h0
    have he : ev d + ev 4607182418800017408 = 0 := by
      apply Decidable.byContradiction
      intro hc
      by_cases hlt : ev d < -1
      · have := g3 hlt; grind
      · have := g2 (by grind); grind
    rw [if_pos he] at s4
    refine (word_inj s1 (by omega) (by rw [h0]; kernel_rfl) ?_).symm
    rw [s4, show sgn 4607182418800017408 = false by decide, show sgn 0 = false by decide]; simp
  · rfl
/-- the program's turn is the document's -/
theorem wrap_eq {x : Nat} (hf : Fin x) (hl : x < 2 ^ 64) : fadd (wri (wd (sgn x) (rg (fsub x (trc x))))) 0 = wrp x ∧ ¬ Nan (wri (wd (sgn x) (rg (fsub x (trc x))))) ∧ ¬ Nan (wrp x) ∧ wrp x < 2 ^ 64 := by
  obtain ⟨fd, d1, d2, d3⟩ := frac hf hl
  unfold wrp
  generalize fsub x (trc x) = d at *
  by_cases h0 : ev d = 0
  · have hd := d2 h0
    subst hd
    have e : wd (sgn x) (rg 0) = 0 ∨ wd (sgn x) (rg 0) = 9223372036854775808 := by
      cases sgn x
      · exact .inl (by decide)
      · exact .inr (by decide)
    rcases e with e | e <;> rw [e] <;> refine ⟨by decide +kernel, by decide +kernel, by decide +kernel, by decide +kernel⟩
  · rw [d3 h0]
    unfold wri
    cases hg : cge d 4602678819172646912
    · cases hc : clt d 13826050856027422720
      · simp only [Bool.false_eq_true, if_false]
        rw [add_nought fd d1, if_neg h0]
        exact ⟨rfl, fd.not_nan, fd.not_nan, d1⟩
      · simp only [Bool.false_eq_true, if_false, if_true]
        obtain ⟨a1, a2, a3⟩ := add_one_word fd hc
        exact ⟨a1, a2, a2, (fadd_fin fd (show Fin 4607182418800017408 by decide +kernel)).1⟩
    · simp only [if_true]
      obtain ⟨a1, a2, a3⟩ := sub_one_word fd hg
      exact ⟨a1, a2, a2, (fsub_fin fd (show Fin 4607182418800017408 by decide +kernel)).1⟩
end Lk
