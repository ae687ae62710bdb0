/-
  What is proved: for every remainders, moduli and bounds the law FoldNears returns true, and its arguments read as before. No conditions.
-/
import Derived.Test.YtepoionjcjgnjaaFoU
import Derived.Test.YtepoionjcjgnjaaFoV
import Derived.Maps.AppendAt
import Derived.Test.YtepoionjcjgnjaaFlL
import Derived.Test.YtepoionjcjgnjaaFlS
import Derived.Test.YtepoionjcjgnjaaRows
import Derived.ProofKit
import Derived.OpenShut
set_option autoImplicit false
set_option linter.unusedVariables false
namespace Go.Proofs.Ytepoionjcjgnjaa
open Go.RowKit Go.ChangeShapes Go.WideShapes Go.ChangeAt Lk Fo
theorem Try.own : ownKnob Try.prog.godebug = none := by kernel_rfl
theorem Try.laidOut : laidOutB Try.prog = true := by kernel_rfl
/-- what is asked, in its cells -/
structure Bx (w : World) (b : Nat) (aR aM : Option Addr) (nR cR nM cM : Nat) (off most : Int) : Prop where
  c0 : w.cell? ⟨b, 0, none⟩ = some (.slice aR nR cR)
  c1 : w.cell? ⟨b, 1, none⟩ = some (.slice aM nM cM)
  c2 : w.cell? ⟨b, 2, none⟩ = some (.int .i64 off)
  c3 : w.cell? ⟨b, 3, none⟩ = some (.int .i64 most)
  lt : b < w.heap.size
theorem Bx.keep {w w' : World} {b : Nat} {aR aM : Option Addr} {nR cR nM cM : Nat} {off most : Int} (h : Bx w b aR aM nR cR nM cM off most) (hb : Below w.heap.size w w') : Bx w' b aR aM nR cR nM cM off most :=
  ⟨(hb.cell (p := ⟨b, 0, none⟩) h.lt).trans h.c0, (hb.cell (p := ⟨b, 1, none⟩) h.lt).trans h.c1, (hb.cell (p := ⟨b, 2, none⟩) h.lt).trans h.c2, (hb.cell (p := ⟨b, 3, none⟩) h.lt).trans h.c3, Nat.lt_of_lt_of_le h.lt hb.size⟩
set_option maxHeartbeats 4000000 in
theorem great_walk (aR aM : Option Addr) (nR cR nM cM : Nat) (off most : Int) (w : World) :
    Calls Try.prog 17 #[.agg #[.slice aR nR cR, .slice aM nM cM, .int .i64 off, .int .i64 most]] w (fun e w' => e = .returned (.bool (decide ((1048576 : Int) < (nR : Int) ∨ (1048576 : Int) < (nM : Int) ∨ (131072 < most ∧ most ≤ 4194304)))) ∧ Below w.heap.size w w') := by
  obtain ⟨q, hq⟩ : ∃ q, decide ((1048576 : Int) < (nR : Int) ∨ (1048576 : Int) < (nM : Int) ∨ (131072 < most ∧ most ≤ 4194304)) = q := ⟨_, rfl⟩
  rw [hq]
  have HQ := Lib.hid hq
  clear hq
  by_cases h1 : (1048576 : Int) < (nR : Int) <;> by_cases h2 : (1048576 : Int) < (nM : Int) <;> by_cases h3 : 131072 < most <;> by_cases h4 : most ≤ 4194304
  all_goals try (exfalso; omega)
  all_goals
    have HQ2 : Hid (q = (decide ((1048576 : Int) < (nR : Int)) || (decide ((1048576 : Int) < (nM : Int)) || (decide (131072 < most) && decide (most ≤ 4194304))))) := Lib.hid (by rw [← HQ.out]; simp)
    have HR := Lib.hid (And.intro h1 (And.intro h2 (And.intro h3 h4)))
    go_enter Try.func17, Try.ntmps17
    go_wp2_with fail
    go_ret
    refine ⟨?_, by (repeat' (first | assumption | exact Below.refl _ _ | refine below_drewN ?_ _ | refine Below.drew ?_ | refine Below.setCell ?_ (by first | exact Nat.le_refl _ | (simp; done) | (simp; omega)) _ | refine Below.alloc ?_ (by first | exact Nat.le_refl _ | (simp; done) | (simp; omega)) _))⟩
    obtain ⟨k1, k2, k3, k4⟩ := HR.out
    rw [HQ2.out]
    first | (simp [k1, k2, k3, k4]; done) | (congr 2; simp only [k1, k2, k3, k4]; simp)
theorem near_short {R M : List Int} {off most : Int} : (nearW R M off most).1.length ≤ 65536 := by
  unfold nearW
  split
  · simp
  · split
    · simp
    · split
      · simp
      · split
        · simp
        · rename_i h; simp only; omega
theorem near_ok {R M : List Int} {off most : Int} : ∀ x ∈ (nearW R M off most).1, -9223372036854775808 ≤ x ∧ x ≤ 9223372036854775807 := by
  unfold nearW
  split
  · simp
  · split
    · simp
    · split
      · simp
      · split
        · simp
        · intro x hx
          obtain ⟨k, hk, rfl, _⟩ := near_mem.1 hx
          omega
def Nd (u v : Value) : Prop := ∀ b, u.ownBlock = some b → v.ownBlock ≠ some b
theorem nd_of {w w' : World} {B B' n n' : Nat} {u v : Value} {xs ys : List Value} (h : w.ownsRow B 2 1 u n xs) (k : w'.ownsRow B' 2 1 v n' ys) (hB : w.heap.size ≤ B') : Nd u v := fun b hb hv => by
  have h1 := (h.lt b hb).2
  have h2 := (k.lt b hv).1
  omega
theorem Lt.keepB {w w' : World} {B g n cap : Nat} {l : List Int} (h : Lt w B g n cap l) (b : Below w.heap.size w w') : Lt w' B g n cap l := h.keep b
set_option maxRecDepth 100000 in
set_option maxHeartbeats 16000000 in
theorem nears_law (aR aM : Option Addr) (nR cR nM cM : Nat) (R M : List Int) (off most : Int) (w : World) (sR : Sl w aR nR cR R) (sM : Sl w aM nM cM M)
    (f1 : -9223372036854775808 ≤ off) (f2 : off ≤ 9223372036854775807) (f3 : -9223372036854775808 ≤ most) (f4 : most ≤ 9223372036854775807) :
    Calls Try.prog 5 #[.agg #[.slice aR nR cR, .slice aM nM cM, .int .i64 off, .int .i64 most]] w (fun e w' => e = .returned (.bool true) ∧ Below w.heap.size w w') := by
  obtain ⟨I, hi, hz, hsz, hby⟩ := info_parts int_info
  go_enter Try.func5, Try.ntmps5
  go_wp2_with fail
  refine (great_walk aR aM nR cR nM cM off most _).mono ?_; rintro e w1 ⟨rfl, b1⟩
  have hb1 : Below w.heap.size w w1 := Below.trans ((Below.refl _ _).alloc (Nat.le_refl _) _) (b1.mono (by simp))
  have hB0 : (w.alloc (Obj.cells #[Value.slice aR nR cR, Value.slice aM nM cM, Value.int IntKind.i64 off, Value.int IntKind.i64 most] 33)).heap[w.heap.size]? = some (.cells #[Value.slice aR nR cR, Value.slice aM nM cM, Value.int IntKind.i64 off, Value.int IntKind.i64 most] 33 (0, 0)) := by rw [al, if_pos rfl]
  have bx0 : Bx (w.alloc (Obj.cells #[Value.slice aR nR cR, Value.slice aM nM cM, Value.int IntKind.i64 off, Value.int IntKind.i64 most] 33)) w.heap.size aR aM nR cR nM cM off most :=
    ⟨cell_of_heap hB0 0, cell_of_heap hB0 1, cell_of_heap hB0 2, cell_of_heap hB0 3, by simp⟩
  have BX1 := Lib.hid (bx0.keep b1)
  have HB1 := Lib.hid hb1
  have S1 := Lib.hid (And.intro (sR.keep hb1) (sM.keep hb1))
  clear hB0 bx0 b1 sR sM
  by_cases hgr : (1048576 : Int) < (nR : Int) ∨ (1048576 : Int) < (nM : Int) ∨ (131072 < most ∧ most ≤ 4194304)
  · rw [decide_eq_true hgr]
    clear hgr
    go_wp2_with fail
    refine (wakes_walk _).mono ?_; rintro e w2 ⟨rfl, b2⟩
    go_wp2_with fail
    go_ret
    exact ⟨rfl, HB1.out.trans (b2.mono HB1.out.size)⟩
  · rw [decide_eq_false hgr]
    have gR : nR ≤ 1048576 := by omega
    have gM : nM ≤ 1048576 := by omega
    clear hgr hb1
    obtain ⟨c0, c1, c2, c3, clt⟩ := BX1.out
    go_wp2_with fail
    refine (lent_walk aR nR cR R w1 S1.out.1 gR).mono ?_; rintro e w2 ⟨gp, cp, rfl, tp, b2⟩
    have BX2 := Lib.hid (BX1.out.keep b2)
    have S2 := Lib.hid (And.intro (S1.out.1.keep b2) (S1.out.2.keep b2))
    have HB2 := Lib.hid (HB1.out.trans (b2.mono HB1.out.size))
    have TP := Lib.hid tp
    clear c0 c1 c2 c3 clt b2 tp BX1 S1 HB1
    obtain ⟨c0, c1, c2, c3, clt⟩ := BX2.out
    go_wp2_with fail
    refine (lent_walk aM nM cM M w2 S2.out.2 gM).mono ?_; rintro e w3 ⟨gq, cq, rfl, tq, b3⟩
    have BX3 := Lib.hid (BX2.out.keep b3)
    have S3 := Lib.hid (And.intro (S2.out.1.keep b3) (S2.out.2.keep b3))
    have HB3 := Lib.hid (HB2.out.trans (b3.mono HB2.out.size))
    have TP3 := Lib.hid (TP.out.keep b3)
    have TQ3 := Lib.hid tq
    clear c0 c1 c2 c3 clt b3 tq BX2 S2 HB2 TP
    obtain ⟨c0, c1, c2, c3, clt⟩ := BX3.out
    go_wp2_with fail
    refine (rnear_walk aR aM nR nM cR cM R M off most w3 S3.out.1 S3.out.2 f1 f2 f3 f4).mono ?_; rintro e w4 ⟨v4, rfl, o4, b4⟩
    have NS := Lib.hid (near_short (R := R) (M := M) (off := off) (most := most))
    have NK := Lib.hid (near_ok (R := R) (M := M) (off := off) (most := most))
    have C1 := fun w a1 a2 c1 c2 s1 s2 => near_walk a1 a2 nR nM c1 c2 R M off most w s1 s2 f1 f2 f3 f4
    generalize nearW R M off most = T at *
    obtain ⟨N, E⟩ := T
    simp only at C1 o4 NS NK
    obtain ⟨m, hm⟩ : ∃ m, N.length = m := ⟨_, rfl⟩
    rw [hm] at C1 o4 NS
    obtain ⟨a4, k4, rfl, s4⟩ := sl_owns o4 (by have := NS.out; omega) NK.out
    have BX4 := Lib.hid (BX3.out.keep b4)
    have S4 := Lib.hid (And.intro (S3.out.1.keep b4) (S3.out.2.keep b4))
    have HB4 := Lib.hid (HB3.out.trans (b4.mono HB3.out.size))
    have TP4 := Lib.hid (TP3.out.keep b4)
    have TQ4 := Lib.hid (TQ3.out.keep b4)
    have WT4 := Lib.hid s4
    clear c0 c1 c2 c3 clt b4 o4 s4 BX3 S3 HB3 TP3 TQ3 hm
    obtain ⟨c0, c1, c2, c3, clt⟩ := BX4.out
    go_wp2_with fail
    refine (C1 w4 _ _ _ _ TP4.out.sl TQ4.out.sl).mono ?_; rintro e w5 ⟨v5, rfl, o5, b5⟩
    obtain ⟨a5, k5, rfl, s5⟩ := sl_owns o5 (by have := NS.out; omega) NK.out
    have B5 := Lib.hid b5
    have O5 := Lib.hid o5
    have z5 := b5.size
    clear c0 c1 c2 c3 clt s5 b5 o5
    obtain ⟨c0, c1, c2, c3, clt⟩ := BX4.out.keep B5.out
    go_wp2_with fail
    refine (C1 w5 _ _ _ _ (TP4.out.sl.keep B5.out) (TQ4.out.sl.keep B5.out)).mono ?_; rintro e w6 ⟨v6, rfl, o6, b6⟩
    have O6 := Lib.hid o6
    have O56 := Lib.hid (ownsB O5.out b6)
    have B6 := Lib.hid (B5.out.trans (b6.mono z5))
    have z6 := b6.size
    have ND0 := nd_of O5.out o6 (Nat.le_refl _)
    obtain ⟨a6, k6, rfl, s6⟩ := sl_owns o6 (by have := NS.out; omega) NK.out
    obtain ⟨a5', k5', hv5, s56⟩ := sl_owns O56.out (by have := NS.out; omega) NK.out
    cases hv5
    have S6 := Lib.hid s6
    have S56 := Lib.hid s56
    clear c0 c1 c2 c3 clt o6 b6 s6 s56 C1 O5 B5
    go_wp2_with fail
    refine (same_walk a5 a4 m m k5 k4 N N w6 S56.out (WT4.out.keep B6.out) rfl).mono ?_; rintro e w7 ⟨rfl, b7⟩
    have S67 := Lib.hid (S6.out.keep b7)
    have O67 := Lib.hid (ownsB O6.out b7)
    have O57 := Lib.hid (ownsB O56.out b7)
    have B7 := Lib.hid (B6.out.trans (b7.mono (by omega)))
    have z7 := b7.size
    clear b7 S6 O6 O56 B6 S56
    go_wp2_with fail
    refine (same_walk a6 a4 m m k6 k4 N N w7 S67.out (WT4.out.keep B7.out) rfl).mono ?_; rintro e w8 ⟨rfl, b8⟩
    have O68 := Lib.hid (ownsB O67.out b8)
    have O58 := Lib.hid (ownsB O57.out b8)
    have B8 := Lib.hid (B7.out.trans (b8.mono (by omega)))
    have z8 := b8.size
    clear b8 O67 O57 B7 S67
    have ND := Lib.hid ND0
    clear ND0
    go_wp2_with fail
    go_loopw [11] (fun i wr => ∃ (k : Nat) (xs : List Value), k ≤ m ∧ i = .int .i64 k ∧ wr.ownsRow w4.heap.size 2 1 (.slice a5 m k5) m xs ∧ wr.ownsRow w5.heap.size 2 1 (.slice a6 m k6) m (ints N) ∧ Below w4.heap.size w4 wr) (fun i _ => m - (intOf i).toNat)
    case atStart => exact ⟨0, ints N, Nat.zero_le _, rfl, O58.out, O68.out, B8.out⟩
    case round =>
      clear O58 O68 B8
      obtain ⟨k, xs, hk, rfl, ho5, ho6, hb⟩ := hrel
      have HB := Lib.hid hb
      have zz := hb.size
      clear hb
      have nsm := NS.out
      by_cases hlt : k < m
      · have hk64 : (k : Int) < (m : Int) := by omega
        obtain ⟨g, hg5⟩ : ∃ g, a5 = some ⟨g, 0, none⟩ := by
          rcases ho5.2 with ⟨_, h'⟩ | ⟨g, cap, cur, h, _⟩
          · exfalso; omega
          · cases h; exact ⟨g, rfl⟩
        subst hg5
        have hxl : xs.length = m := by have := ho5.1; omega
        obtain ⟨u, hu⟩ : ∃ u, xs[k]? = some u := ⟨_, List.getElem?_eq_getElem (by omega)⟩
        have cR := (ho5.cellAt k (by omega)).trans hu
        have fR := ho5.frozenAt k
        have st := ho5.stored k (.int .i64 (-5))
        have h6 := ho6.kept st.2 (.inr (ND.out g rfl))
        have hge := (ho5.lt g rfl).1
        have ST := Lib.hid st.1
        have H6 := Lib.hid h6
        have HB2 := Lib.hid (HB.out.setCell (p := ⟨g, k, none⟩) hge (.int .i64 (-5)))
        clear st h6 hu hxl
        go_wp2_with fail
        go_roundw
        case rel => exact ⟨k + 1, _, by omega, by go_num, ST.out, H6.out, HB2.out⟩
        case measure => simp [intOf]; omega
      · obtain rfl : k = m := by omega
        have H5 := Lib.hid ho5
        have H6 := Lib.hid ho6
        clear ho5 ho6
        go_wp2_with fail
        go_loopw [7, 12] (fun v i wr => ∃ (j : Nat) (ys : List Value), j ≤ 20 ∧ i = .int .i64 j ∧ wr.ownsRow w4.heap.size 2 1 v (k + j) ys ∧ Nd v (.slice a6 k k6) ∧ wr.ownsRow w5.heap.size 2 1 (.slice a6 k k6) k (ints N) ∧ Below w4.heap.size w4 wr) (fun _ i _ => 20 - (intOf i).toNat)
        case atStart => exact ⟨0, xs, by omega, rfl, H5.out, ND.out, H6.out, HB.out⟩
        case round =>
          clear H5 H6 HB
          rename_i wr0 _ _ _
          obtain ⟨j, ys, hj, rfl, ho5, hnd, ho6, hb⟩ := hrel
          have HB := Lib.hid hb
          have HN := Lib.hid hnd
          have zz := hb.size
          have H6 := Lib.hid ho6
          clear hb hnd ho6
          by_cases hlt : j < 20
          · have hj64 : (j : Int) < 20 := by omega
            go_wp2_with (refine Go.wpList_append_own_at _ rfl (.tmp 93) (.tmp 94) 27 rfl w4.heap.size 2 I _ 1 8 und27 hi hz hsz hby rfl (by decide) _ (k + j) ys rfl (ho5.alloc _) ⟨wr.heap.size, 0, none⟩ 1 1 [.int .i64 (-6)] rfl rfl (new1 wr _) (one1 _) (by simp only [maxLen]; omega) (by omega) (by simp; omega) ?_; intro v' w9 ow gr _ hv')
            refine ⟨⟨j + 1, _, by omega, by go_num, ow, ?_, ?_, grownB (HB.out.alloc zz _) gr (ho5.alloc _) (by simp; omega)⟩, by simp [intOf]; omega⟩
            · intro b hb' h6
              rcases hv' with h | h
              · exact HN.out b (h.symm.trans hb') h6
              · have h1 := (H6.out.lt b h6).2
                rw [h] at hb'
                have : (wr.alloc (.cells #[Value.int .i64 (-6)] 2)).heap.size = b := Option.some.inj hb'
                simp at this
                omega
            · refine (H6.out.alloc _).kept gr ?_
              cases h : (Value.slice a6 k k6).ownBlock with
              | none => exact .inl rfl
              | some b => exact .inr (fun e => HN.out b e.symm h)
          · obtain rfl : j = 20 := by omega
            obtain ⟨K20, hK20⟩ : ∃ K20, K20 = k + 20 := ⟨_, rfl⟩
            rw [← hK20] at ho5
            have HK := Lib.hid hK20
            clear hK20
            obtain ⟨a7, k7, rfl⟩ := owns_form ho5
            clear ho5 HN
            obtain ⟨c0, c1, c2, c3, clt⟩ := BX4.out.keep HB.out
            go_wp2_with fail
            refine (best_walk _ _ nR nM cp cq R M most wr (TP4.out.sl.keep HB.out) (TQ4.out.sl.keep HB.out) f3 f4).mono ?_; rintro e w10 ⟨rfl, b10⟩
            have B10 := Lib.hid (HB.out.trans (b10.mono zz))
            have H610 := Lib.hid (ownsB H6.out b10)
            have z10 := b10.size
            clear c0 c1 c2 c3 clt b10 HB H6
            obtain ⟨c0, c1, c2, c3, clt⟩ := BX4.out.keep B10.out
            have C2 := fun w a1 a2 c1 c2 s1 s2 => rbest_walk a1 a2 nR nM c1 c2 R M most w s1 s2 f3 f4
            generalize bestW R M most = T at *
            obtain ⟨tx, td, te⟩ := T
            go_wp2_with fail
            refine (C2 w10 _ _ _ _ (S4.out.1.keep B10.out) (S4.out.2.keep B10.out)).mono ?_; rintro e w11 ⟨rfl, b11⟩
            have B11 := Lib.hid (B10.out.trans (b11.mono (by omega)))
            have H611 := Lib.hid (ownsB H610.out b11)
            have z11 := b11.size
            clear c0 c1 c2 c3 clt b11 B10 H610 C2
            obtain ⟨a6', k6', hv6, s6⟩ := sl_owns H611.out (by omega) NK.out
            cases hv6
            have wk : wrap64 ((k : Int) + 20) = (K20 : Int) := by rw [wrap_self (by omega) (by omega)]; have := HK.out; omega
            obtain ⟨c0, c1, c2, c3, clt⟩ := BX4.out.keep B11.out
            go_wp2_with fail
            refine (same_walk a6 a4 k k k6 k4 N N w11 s6 (WT4.out.keep B11.out) rfl).mono ?_; rintro e w12 ⟨rfl, b12⟩
            have B12 := Lib.hid (B11.out.trans (b12.mono (by omega)))
            have z12 := b12.size
            clear c0 c1 c2 c3 clt b12 B11 H611 s6
            obtain ⟨c0, c1, c2, c3, clt⟩ := BX4.out.keep B12.out
            go_wp2_with fail
            all_goals try (exfalso; have := HK.out; omega)
            refine (kept_walk _ gp nR cp aR cR R w12 (TP4.out.keep B12.out) (S4.out.1.keep B12.out)).mono ?_; rintro e w13 ⟨rfl, b13⟩
            have B13 := Lib.hid (B12.out.trans (b13.mono (by omega)))
            have z13 := b13.size
            clear c0 c1 c2 c3 clt b13 B12
            obtain ⟨c0, c1, c2, c3, clt⟩ := BX4.out.keep B13.out
            go_wp2_with fail
            refine (kept_walk _ gq nM cq aM cM M w13 (TQ4.out.keep B13.out) (S4.out.2.keep B13.out)).mono ?_; rintro e w14 ⟨rfl, b14⟩
            have B14 := Lib.hid (B13.out.trans (b14.mono (by omega)))
            have z14 := b14.size
            clear c0 c1 c2 c3 clt b14 B13
            go_wp2_with fail
            refine (wakes_walk _).mono ?_; rintro e w15 ⟨rfl, b15⟩
            have B15 : Hid (Below w.heap.size w w15) := Lib.hid (HB4.out.trans ((B14.out.trans (b15.mono (by omega))).mono HB4.out.size))
            clear b15 B14
            go_wp2_with fail
            go_ret
            exact ⟨rfl, B15.out⟩
theorem sl_rd {W : World} {c : Value} (h2 : Rd Try.prog W 27 [c]) : ∃ a n cap M, c = .slice a n cap ∧ Sl W a n cap M := by
  obtain ⟨a1, n1, c1, hv, g1, g2, g3⟩ := rd_row (P := Try.prog) (t := 27) (e := 2) (n := 1) und27 (by kernel_rfl) (by decide) h2
  obtain rfl : c = .slice a1 n1 c1 := by simpa using hv
  rcases g3 with h0 | ⟨b, off, hb, rfl, hc⟩
  · exact ⟨a1, n1, c1, [], rfl, by rw [h0]; rfl, g1, by unfold maxLen at g2; omega, (fun x hx => by cases hx), .inl h0⟩
  · have key : ∀ i, ∃ x : Int, i < n1 → W.cell? ⟨b, off + i, none⟩ = some (.int .i64 x) ∧ -9223372036854775808 ≤ x ∧ x ≤ 9223372036854775807 := by
      intro i
      by_cases hi : i < n1
      · obtain ⟨cs, hl, hcell, hr⟩ := hc i hi
        obtain ⟨x, rfl, x1, x2⟩ := rd_int Try.underlying2 hr
        refine ⟨x, fun _ => ⟨?_, x1, x2⟩⟩
        have := hcell 0 (by decide)
        rwa [show i * 1 + 0 = i by omega] at this
      · exact ⟨0, fun h => absurd h hi⟩
    obtain ⟨f, hf⟩ := Classical.axiomOfChoice key
    refine ⟨_, n1, c1, (List.range n1).map f, rfl, by simp, g1, by unfold maxLen at g2; omega, fun x hx => ?_, .inr ⟨b, off, rfl, hb, fun j hj => ?_⟩⟩
    · obtain ⟨j, hj, rfl⟩ := List.mem_map.1 hx
      exact (hf j (List.mem_range.1 hj)).2
    · have hj' : j < n1 := by simpa using hj
      rw [(hf j hj').1]; simp
theorem nears_args (W : World) (base : Nat) (args : Array Value) (hsz : args.size = Try.f5.params.size) (hval : ∀ (j : Nat) t v, Try.f5.params[j]? = some t → args[j]? = some v → Value.okWide Try.prog W .any base t v)
    (hrd : ∀ (j : Nat) t v, Try.f5.params[j]? = some t → args[j]? = some v → Rd Try.prog W t v.cells.toList) :
    Calls Try.prog 5 args W (fun e w' => e = .returned (.bool true) ∧ Below W.heap.size W w') := by
  rw [Try.params5] at hval hsz hrd
  obtain ⟨l⟩ := args
  match l, hsz with
  | [v0], _ =>
    obtain ⟨cs, rfl, hsz2, _⟩ := ok_agg (t := 33) (ts := [27, 27, 2, 2]) (by kernel_rfl) (by kernel_rfl) (by kernel_rfl) (hval 0 33 v0 rfl rfl)
    have hd := hrd 0 33 _ rfl rfl
    obtain ⟨l⟩ := cs
    match l, hsz2 with
    | [y0, y1, y2, y3], _ =>
      obtain ⟨_, hf⟩ := rd_struct Try.underlying33 hd
      have e27 : Try.prog.cellsOf 27 = 1 := by kernel_rfl
      have e2 : Try.prog.cellsOf 2 = 1 := by kernel_rfl
      obtain ⟨aR, nR, cR, R, rfl, sR⟩ := sl_rd (c := y0) (W := W) (by simpa [e27, Value.cells] using hf 0 _ rfl)
      obtain ⟨aM, nM, cM, M, rfl, sM⟩ := sl_rd (c := y1) (W := W) (by simpa [e27, Value.cells] using hf 1 _ rfl)
      obtain ⟨off, ho, o1, o2⟩ := rd_int (W := W) (cs := [y2]) Try.underlying2 (by simpa [e2, Value.cells] using hf 2 _ rfl)
      obtain ⟨most, hm, m1, m2⟩ := rd_int (W := W) (cs := [y3]) Try.underlying2 (by simpa [e2, Value.cells] using hf 3 _ rfl)
      obtain rfl : y2 = .int .i64 off := by simpa using ho
      obtain rfl : y3 = .int .i64 most := by simpa using hm
      exact nears_law aR aM nR cR nM cM R M off most W sR sM o1 o2 m1 m2

set_option maxRecDepth 100000 in
theorem nears_lifted (os : Os) (started : os.Started) (H : Type) (enc : TypeId × Value → H) :
    ReturnsInHanded {} Try.checked os 5 .any (Rows.foldNearsSpec.pre6 enc Try.prog Try.f5 Rows.foldNearsRow.domain false) (Rows.foldNearsSpec.post enc Try.prog Try.f5 false true false false) :=
  law_lifted_s (C := Try.checked) Try.own started (by kernel_rfl) Try.func5
    (ChangeSpec.witness6 (enc := enc) (C := Try.checked) false ⟨#[], #[.agg #[.slice none 0 0, .slice none 0 0, .int .i64 0, .int .i64 0]], []⟩ 8 (by kernel_rfl) (by kernel_rfl) (by kernel_rfl) (by kernel_rfl))
    Try.laidOut (fun t ht => by have ht2 : t ∈ Try.f5.params.toList := ht; rw [Try.params5] at ht2; simp only [List.mem_cons, List.not_mem_nil, or_false] at ht2; subst ht2; exact ⟨by kernel_rfl, of_decide_eq_true (by kernel_rfl)⟩)
    rfl Try.underlying4 rfl (fun ds hd => by have hd2 : ds.length = Try.f5.params.size := hd; rw [Try.params5] at hd2; match ds, hd2 with | [d0], _ => exact ⟨rfl, rfl, rfl⟩) nears_args

theorem nears_holds : Rows.FoldNearsSaid :=
  OpenClaim.holds_of_wide 5 Try.f5 rfl rfl rfl rfl rfl rfl rfl ⟨rfl, rfl, rfl, rfl, rfl⟩ rfl rfl rfl rfl rfl (by kernel_rfl) Try.func5 (by kernel_rfl)
    (of_decide_eq_true (by kernel_rfl)) (by unfold Func.isWrapper; first | (rw [if_pos (by decide +kernel)]; kernel_rfl) | (rw [if_neg (by decide +kernel)]; exact ⟨rfl, rfl⟩))
    (fun os started H enc _ => nears_lifted os started H enc)
#print axioms nears_holds
end Go.Proofs.Ytepoionjcjgnjaa
