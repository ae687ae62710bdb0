/-
  The walk of the law FoldMoved: it returns true.
-/
import Derived.Test.YtepoionjcjgnjaaFoV
import Derived.Test.YtepoionjcjgnjaaFlL
import Derived.Test.YtepoionjcjgnjaaFlQ
import Derived.Deep.QuietTactic
import Derived.Test.YtepoionjcjgnjaaFlS
import Derived.Test.YtepoionjcjgnjaaRows
import Derived.ProofKit
import Derived.OpenShut
set_option autoImplicit false
set_option linter.unusedVariables false
namespace Go.Proofs.Ytepoionjcjgnjaa
open Go.RowKit Go.ChangeShapes Go.WideShapes Go.ChangeAt Lk Fo
theorem Try.own : ownKnob Try.prog.godebug = none := by kernel_rfl
theorem Try.laidOut : laidOutB Try.prog = true := by kernel_rfl
/-- what the two tests read -/
structure JM (b o b' o' : Nat) (z : Int) (x : World) : Prop where
  c1 : x.cell? ⟨b, o, none⟩ = some (.int .i64 z)
  c2 : x.cell? ⟨b', o', none⟩ = some (.int .i64 z)
  l1 : b < x.heap.size
  l2 : b' < x.heap.size
/-- remainders and moduli in memory -/
structure Pk (w x : World) (aR aL : Option Addr) (q cR cL : Nat) (R L : List Int) : Prop where
  r : Sl x aR q cR R
  l : Sl x aL q cL L
  b : Below w.heap.size w x
theorem Pk.keep {w x y : World} {aR aL : Option Addr} {q cR cL : Nat} {R L : List Int} (h : Pk w x aR aL q cR cL R L) (b : Below x.heap.size x y) : Pk w y aR aL q cR cL R L :=
  ⟨h.r.keep b, h.l.keep b, h.b.trans (b.mono h.b.size)⟩
theorem near_range {L : List (Int × Int)} {off : Int} : ∀ z ∈ nearL L off 8192, -9223372036854775808 ≤ z ∧ z ≤ 9223372036854775807 := by
  intro z hz
  obtain ⟨k, hk, rfl, _⟩ := near_mem.1 hz
  omega
theorem near_get {L : List (Int × Int)} {off : Int} {i : Nat} {z : Int} (h : (nearL L off 8192)[i]? = some z) : ∃ k : Nat, k < 8192 ∧ z = k ∧ farL k L 0 ≤ off := near_mem.1 (List.mem_of_getElem? h)
/-- what is near with less is near with more -/
theorem near_wide {L : List (Int × Int)} {off : Int} {i : Nat} {z : Int} (h : (nearL L off 8192)[i]? = some z) : ∃ p : Nat, (nearL L (off + 1) 8192)[p]? = some z := by
  obtain ⟨k, h1, rfl, h3⟩ := near_get h
  exact List.getElem?_of_mem (near_mem.2 ⟨k, h1, rfl, by omega⟩)
structure BWs (R L : List Int) (P : List (Int × Int)) : Prop where
  eq : bestW R L 8192 = ((bst P 8192).1, (bst P 8192).2, 0)
def IvB (N2 : List Int) (z : Int) (c : Nat) : Prop := ∀ (j : Nat) (u : Int), j < c → N2[j]? = some u → u < z
def IvA (N1 N2 : List Int) (i c : Nat) : Prop := ∀ (z : Int), N1[i]? = some z → IvB N2 z c
/-- Near, where its moduli are small -/
theorem nearS_walk (aR aL : Option Addr) (q cR cL : Nat) (R L : List Int) (P : List (Int × Int)) (w w0 : World) (g : Int) (hP : R.zip L = P) (h : Pk w0 w aR aL q cR cL R L) (h5 : L.length ≤ 5) (hm : ∀ x ∈ L, 1 ≤ x ∧ x ≤ 4096) (g0 : 0 ≤ g) (g1 : g ≤ 9223372036854775807) :
    Calls Try.prog 19 #[.slice aR q cR, .slice aL q cL, .int .i64 g, .int .i64 8192] w (fun e w' => ∃ a5 n5 c5, e = .returned (.tuple #[.slice a5 n5 c5, .int .i64 0]) ∧ Sl w' a5 n5 c5 (nearL P g 8192) ∧ n5 ≤ 8192 ∧ Below w.heap.size w w') := by
  refine (near_walk aR aL q q cR cL R L g 8192 w h.r h.l (by omega) (by omega) (by omega) (by omega)).mono ?_; rintro e w3 ⟨v1, rfl, ho1, b3⟩
  rw [nearW_small h5 hm g0, hP] at ho1
  have hl := near_len (L := P) (off := g) 8192
  obtain ⟨a5, cap5, rfl, s5⟩ := sl_owns ho1 (by show (nearL P g 8192).length ≤ _; omega) near_range
  refine ⟨a5, (nearL P g 8192).length, cap5, by rw [nearW_small h5 hm g0], s5, hl, b3⟩
set_option maxRecDepth 100000 in
set_option maxHeartbeats 16000000 in
theorem moved_law (x : Int) (a : Option Addr) (n cap : Nat) (M : List Int) (b : Option Addr) (n2 cap2 : Nat) (V : List Int) (off : Int) (w : World)
    (x1 : -9223372036854775808 ≤ x) (x2 : x ≤ 9223372036854775807) (s : Sl w a n cap M) (t : Sl w b n2 cap2 V) (f1 : -9223372036854775808 ≤ off) (f2 : off ≤ 9223372036854775807) :
    Calls Try.prog 9 #[.int .i64 x, .slice a n cap, .slice b n2 cap2, .int .i64 off] w (fun e w' => e = .returned (.bool true) ∧ Below w.heap.size w w') := by
  obtain ⟨I, hi, hz, hsz, hby⟩ := info_parts int_info
  go_enter Try.func9, Try.ntmps9
  go_wp2_with fail
  refine (moduli_walk a n cap M w s).mono ?_; rintro e w1 ⟨v, rfl, ho, b1⟩
  obtain ⟨q, hq⟩ : ∃ q, q = min n 5 := ⟨_, rfl⟩
  obtain ⟨L, hL⟩ : ∃ L, L = mL (M.take 5) := ⟨_, rfl⟩
  have hm : ∀ m ∈ L, 1 ≤ m ∧ m ≤ 4096 := by rw [hL]; exact mL_range
  rw [← hq, ← hL] at ho
  have q5 : q ≤ 5 := by omega
  clear hq hL s
  obtain ⟨a3, cap3, rfl, sl⟩ := sl_owns ho (by omega) (fun y hy => by have := hm y hy; omega)
  have HM := Lib.hid hm
  have SL := Lib.hid sl
  have QL := Lib.hid sl.len
  have SV := Lib.hid (t.keep b1)
  have tsm := t.small
  have B1 := Lib.hid b1
  have z1 := b1.size
  clear ho sl b1 hm t
  go_wp2_with fail
  refine (lmod_walk off 40 w1 f1 f2 (by omega) (by omega)).mono ?_; rintro e w2 ⟨rfl, rfl⟩
  have g0 := Int.emod_nonneg off (show (40 : Int) ≠ 0 by omega)
  have g1 := Int.emod_lt_of_pos off (show (0 : Int) < 40 by omega)
  generalize off % 40 = f at *
  go_wp2_with fail
  refine (lmod_walk x 8192 w1 x1 x2 (by omega) (by omega)).mono ?_; rintro e w2 ⟨rfl, rfl⟩
  have y0 := Int.emod_nonneg x (show (8192 : Int) ≠ 0 by omega)
  have y1 := Int.emod_lt_of_pos x (show (0 : Int) < 8192 by omega)
  generalize x % 8192 = y at *
  go_wp2_with fail
  go_loopw [10, 11] (fun u i wr => ∃ (k : Nat) (R : List Int), k ≤ q ∧ i = .int .i64 k ∧ R.length = k ∧ (∀ r ∈ R, y - r ≤ f ∧ r - y ≤ f) ∧ wr.ownsRow w1.heap.size 2 1 u k (ints R) ∧ Below w1.heap.size w1 wr) (fun _ i _ => q - (intOf i).toNat)
  case atStart => exact ⟨0, [], Nat.zero_le _, rfl, rfl, (fun r h => by cases h), World.ownsRow_nil _ _ _ _, Below.refl _ _⟩
  case round =>
    obtain ⟨k, R, hk, rfl, hRl, hR, ho, hb⟩ := hrel
    have HRL := Lib.hid hRl
    have HR := Lib.hid hR
    have HB := Lib.hid hb
    have zz := hb.size
    clear hRl hR hb
    by_cases hlt : k < q
    · have hk64 : (k : Int) < (q : Int) := by omega
      by_cases hv : k < n2
      · have hv64 : (k : Int) < (n2 : Int) := by omega
        obtain ⟨b4, o4, mv, rfl, hb4, e4, d4, m1, m2⟩ := (SV.out.keep HB.out).at (k := k) hv
        have p0 := Int.emod_nonneg mv (show 2 * f + 1 ≠ 0 by omega)
        have p1 := Int.emod_lt_of_pos mv (show 0 < 2 * f + 1 by omega)
        have w2f : wrap64 (2 * f) = 2 * f := wrap_self (by omega) (by omega)
        have w2f1 : wrap64 (2 * f + 1) = 2 * f + 1 := wrap_self (by omega) (by omega)
        have wmv : wrap64 (mv % (2 * f + 1) - f) = mv % (2 * f + 1) - f := wrap_self (by omega) (by omega)
        have wy : wrap64 (y + (mv % (2 * f + 1) - f)) = y + (mv % (2 * f + 1) - f) := wrap_self (by omega) (by omega)
        clear e4
        go_wp2_with fail
        refine (lmod_walk mv (2 * f + 1) wr m1 m2 (by omega) (by omega)).mono ?_; rintro e w2 ⟨rfl, rfl⟩
        go_wp2_with (refine wpList_append_own _ rfl (.tmp 52) (.tmp 56) 27 rfl w1.heap.size 2 I _ 1 8 und27 hi hz hsz hby rfl (by decide) _ k (ints R) rfl (ho.alloc _) ⟨wr.heap.size, 0, none⟩ 1 1 [.int .i64 (y + (mv % (2 * f + 1) - f))] rfl rfl (new1 wr _) (one1 _) (by simp only [maxLen]; omega) (by omega) (by simp; omega) ?_; intro v' w3 ow gr _)
        refine ⟨⟨k + 1, R ++ [y + (mv % (2 * f + 1) - f)], by omega, by go_num, by rw [List.length_append, HRL.out]; rfl, fun r hr => ?_, by rw [ints_snoc]; exact ow, grownB (HB.out.alloc zz _) gr (ho.alloc _) (by simp; omega)⟩, by simp [intOf]; omega⟩
        rcases List.mem_append.1 hr with h | h
        · exact HR.out r h
        · rw [List.mem_singleton] at h; subst h; omega
      · have hv64 : ¬ (k : Int) < (n2 : Int) := by omega
        have wy : wrap64 y = y := wrap_self (by omega) (by omega)
        go_wp2_with (refine wpList_append_own _ rfl (.tmp 52) (.tmp 56) 27 rfl w1.heap.size 2 I _ 1 8 und27 hi hz hsz hby rfl (by decide) _ k (ints R) rfl (ho.alloc _) ⟨wr.heap.size, 0, none⟩ 1 1 [.int .i64 y] rfl rfl (new1 wr _) (one1 _) (by simp only [maxLen]; omega) (by omega) (by simp; omega) ?_; intro v' w3 ow gr _)
        refine ⟨⟨k + 1, R ++ [y], by omega, by go_num, by rw [List.length_append, HRL.out]; rfl, fun r hr => ?_, by rw [ints_snoc]; exact ow, grownB (HB.out.alloc zz _) gr (ho.alloc _) (by simp; omega)⟩, by simp [intOf]; omega⟩
        rcases List.mem_append.1 hr with h | h
        · exact HR.out r h
        · rw [List.mem_singleton] at h; subst h; omega
    · obtain rfl : k = q := by omega
      obtain ⟨a4, cap4, rfl, sr⟩ := sl_owns ho (by omega) (fun r hr => by have := HR.out r hr; omega)
      have PK : Hid (Pk w wr a4 a3 k cap4 cap3 R L) := Lib.hid ⟨sr, SL.out.keep HB.out, B1.out.trans (HB.out.mono z1)⟩
      have L5 : Hid (L.length ≤ 5) := Lib.hid (by rw [QL.out]; omega)
      have FX : Hid (farL y (R.zip L) 0 ≤ f) := Lib.hid (farL_le _ _ (by omega) (fun p hp => ⟨(HM.out p.2 (List.of_mem_zip hp).2).1, HR.out p.1 (List.of_mem_zip hp).1⟩))
      have F0 : Hid (∀ z, 0 ≤ farL z (R.zip L) 0 ∧ farL z (R.zip L) 0 ≤ 1099511627776) := Lib.hid (fun z => far0 z HM.out)
      have BW : BWs R L (R.zip L) := ⟨bestW_small (R := R) (M := L) (by rw [QL.out]; omega) HM.out⟩
      clear sr ho HB SL SV HRL HR hlt
      obtain ⟨P, hP⟩ : ∃ P, R.zip L = P := ⟨_, rfl⟩
      rw [hP] at FX F0 BW
      have HP := Lib.hid hP
      clear hP
      have wf1 : wrap64 (f + 1) = f + 1 := wrap_self (by omega) (by omega)
      go_wp2_with fail
      refine (nearS_walk a4 a3 k cap4 cap3 R L P wr w f HP.out PK.out L5.out HM.out g0 (by omega)).mono ?_; rintro e w3 ⟨a5, n5, c5, rfl, s5, l5, b3⟩
      have PK3 := Lib.hid (PK.out.keep b3)
      have S5 := Lib.hid s5
      clear b3 s5 PK
      go_wp2_with fail
      refine (nearS_walk a4 a3 k cap4 cap3 R L P w3 w (f + 1) HP.out PK3.out L5.out HM.out (by omega) (by omega)).mono ?_; rintro e w4 ⟨a6, n6, c6, rfl, s6, l6, b4⟩
      have PK4 := Lib.hid (PK3.out.keep b4)
      have T5 := Lib.hid (S5.out.keep b4)
      have T6 := Lib.hid s6
      clear b4 s6 PK3 S5
      have WD : Hid (∀ (i : Nat) (z : Int), (nearL P f 8192)[i]? = some z → ∃ p : Nat, (nearL P (f + 1) 8192)[p]? = some z) := Lib.hid (fun i z => near_wide)
      have O1 := Lib.hid (near_sorted (L := P) (off := f) 8192)
      have O2 := Lib.hid (near_sorted (L := P) (off := f + 1) 8192)
      have YM : Hid (y ∈ nearL P f 8192) := Lib.hid (near_mem.2 ⟨y.toNat, by omega, by omega, by rw [Int.toNat_of_nonneg y0]; exact FX.out⟩)
      obtain ⟨N1, hN1⟩ : ∃ N1, nearL P f 8192 = N1 := ⟨_, rfl⟩
      obtain ⟨N2, hN2⟩ : ∃ N2, nearL P (f + 1) 8192 = N2 := ⟨_, rfl⟩
      rw [hN1] at WD O1 YM T5
      rw [hN2] at WD O2 T6
      clear hN1 hN2
      go_wp2_with fail
      refine (has_walk a5 n5 c5 N1 y _ T5.out YM.out).mono ?_; rintro e w5 ⟨rfl, b5⟩
      have PK5 := Lib.hid (PK4.out.keep b5)
      have U5 := Lib.hid (T5.out.keep b5)
      have U6 := Lib.hid (T6.out.keep b5)
      clear b5 PK4 T5 T6
      go_wp2_with fail
      go_loopw [17, 18] (fun vk vi wr => ∃ (c i : Nat), c ≤ n6 ∧ i ≤ n5 ∧ vk = .int .i64 c ∧ vi = .int .i64 i ∧ IvA N1 N2 i c ∧ Below w5.heap.size w5 wr) (fun _ vi _ => n5 - (intOf vi).toNat)
      case atStart => exact ⟨0, 0, Nat.zero_le _, Nat.zero_le _, rfl, rfl, (fun z _ j u hj => absurd hj (Nat.not_lt_zero _)), Below.refl _ _⟩
      case round =>
        obtain ⟨c, i, hc, hi5, rfl, rfl, hinv, hb⟩ := hrel
        have HI := Lib.hid hinv
        have HB := Lib.hid hb
        have zz := hb.size
        clear hinv hb
        by_cases hlt : i < n5
        · have hi64 : (i : Int) < (n5 : Int) := by omega
          obtain ⟨bz, oz, z, rfl, hbz, ez, dz, zr1, zr2⟩ := (U5.out.keep HB.out).at (k := i) hlt
          have EZ := Lib.hid ez
          obtain ⟨p, hp⟩ := WD.out i z ez
          have HPz := Lib.hid hp
          clear ez hp
          go_wp2_with fail
          go_loopw [17] (fun vk wr2 => ∃ c : Nat, c ≤ n6 ∧ vk = .int .i64 c ∧ IvB N2 z c ∧ Below wr.heap.size wr wr2) (fun vk _ => n6 - (intOf vk).toNat)
          case atStart => exact ⟨c, hc, rfl, HI.out z EZ.out, Below.refl _ _⟩
          case round =>
            obtain ⟨d, hd, rfl, hinv, hb2⟩ := hrel
            have HJ := Lib.hid hinv
            have HB2 := Lib.hid hb2
            have zz2 := hb2.size
            have DZ : wr.cell? ⟨bz, oz + i, none⟩ = some (.int .i64 z) := (hb2.cell (p := ⟨bz, oz + i, none⟩) hbz).trans dz
            clear hinv hb2
            by_cases hd6 : d < n6
            · have hd64 : (d : Int) < (n6 : Int) := by omega
              obtain ⟨bu, ou, u, rfl, hbu, eu, du, ur1, ur2⟩ := (U6.out.keep (HB.out.trans (HB2.out.mono zz))).at (k := d) hd6
              have EU := Lib.hid eu
              clear eu
              have zbz : bz < wr.heap.size := by omega
              have HDN : Hid (((d : Int) == (n6 : Int)) = false) := Lib.hid (beq_eq_false_iff_ne.2 (by omega))
              have hd66 : ¬ (d : Int) = (n6 : Int) := by omega
              by_cases hu : u < z
              · go_wp2_with fail
                refine wp_region_G TN (by kernel_rfl) (by kernel_rfl) ?_
                repeat' (refine wpG_step' (fun K hA hK => ?_); go_simp; first | (refine bothG_value hA (v := ?_) (fun w' hw' => ?_) ?_; rotate_left; (· go_simp; rfl); (refine hK _ _ ?_; clear hK hA K)))
                refine wpG_nil ?_
                intro w7 hb7 hF
                have HB7 := Lib.hid (HB2.out.trans (hb7.mono zz2))
                clear hF hb7 du DZ
                go_wp2_with fail
                go_roundw
                case rel =>
                  refine ⟨d + 1, by omega, by go_num, fun j u' hj h => ?_, HB7.out⟩
                  by_cases hjd : j = d
                  · subst hjd; rw [EU.out] at h; cases h; exact hu
                  · exact HJ.out j u' (by omega) h
                case measure => simp [intOf]; omega
              · obtain rfl : u = z := by
                  apply Decidable.byContradiction
                  intro hne
                  have g := (sorted_at O2.out HPz.out EU.out).2 (by omega)
                  have := HJ.out p z g HPz.out
                  omega
                rcases Nat.eq_zero_or_pos i with hi0 | hi0
                · subst hi0
                  rw [Nat.add_zero] at DZ
                  have hdn : ((d : Int) == (n6 : Int)) = false := HDN.out
                  have J0 : Hid (JM bz oz bu (ou + d) u wr) := Lib.hid ⟨DZ, du, zbz, hbu⟩
                  clear DZ du HPz
                  go_wp2_with fail
                  refine wp_region_J1 15 (JM bz oz bu (ou + d) u) (by kernel_rfl) rfl (by kernel_rfl) ⟨J0.out.c1, J0.out.c2, J0.out.l1, J0.out.l2⟩ (fun w7 hb7 hJ hs => ?_)
                  have HJH := Lib.hid HJ.out
                  clear HJ
                  have HJ := Lib.hid hJ
                  have HB7 := Lib.hid (HB2.out.trans (hb7.mono zz2))
                  clear hb7 hJ J0
                  (refine j_take 0 _ ?_ hs rfl rfl (by kernel_rfl) (by kernel_rfl) HJ.out (fun w' hw' => ?_) ?_; rotate_left; (· skip; go_simp; rfl); (go_simp))
                  (refine j_take 1 _ ?_ hs rfl rfl (by kernel_rfl) (by kernel_rfl) HJ.out (fun w' hw' => ?_) ?_; rotate_left; (· skip; go_simp; rfl); (go_simp))
                  (refine j_take 2 _ ?_ hs rfl rfl (by kernel_rfl) (by kernel_rfl) HJ.out (fun w' hw' => ?_) ?_; rotate_left; (· skip; go_simp; rfl); (go_simp))
                  (refine j_take 3 _ ?_ hs rfl rfl (by kernel_rfl) (by kernel_rfl) HJ.out (fun w' hw' => ?_) ?_; rotate_left; (· skip; go_simp; rfl); (go_simp))
                  (refine j_take 4 _ ?_ hs rfl rfl (by kernel_rfl) (by kernel_rfl) HJ.out (fun w' hw' => ?_) ?_; rotate_left; (· skip; go_simp; rfl); (go_simp))
                  (refine j_take2 5 _ ?_ hs rfl (by kernel_rfl) (by kernel_rfl) HJ.out ?_ (fun w' hw' => ?_) ?_; rotate_left; (· go_simp); (· skip; go_simp; rfl); (go_simp))
                  (refine j_take2 6 _ ?_ hs rfl (by kernel_rfl) (by kernel_rfl) HJ.out ?_ (fun w' hw' => ?_) ?_; rotate_left; (· go_simp); (· skip; go_simp; rfl); (go_simp))
                  (refine j_take2 7 _ ?_ hs rfl (by kernel_rfl) (by kernel_rfl) HJ.out ?_ (fun w' hw' => ?_) ?_; rotate_left; (· go_simp); (· skip; go_simp; rfl); (go_simp))
                  (refine j_take2 8 _ ?_ hs rfl (by kernel_rfl) (by kernel_rfl) HJ.out ?_ (fun w' hw' => ?_) ?_; rotate_left; (· go_simp); (· obtain ⟨d1, d2, l1, l2⟩ := hw'; go_simp; rfl); (go_simp))
                  (refine j_take2 9 _ ?_ hs rfl (by kernel_rfl) (by kernel_rfl) HJ.out ?_ (fun w' hw' => ?_) ?_; rotate_left; (· go_simp); (· skip; go_simp; rfl); (go_simp))
                  (refine j_take2 10 _ ?_ hs rfl (by kernel_rfl) (by kernel_rfl) HJ.out ?_ (fun w' hw' => ?_) ?_; rotate_left; (· go_simp); (· skip; go_simp; rfl); (go_simp))
                  (refine j_take2 11 _ ?_ hs rfl (by kernel_rfl) (by kernel_rfl) HJ.out ?_ (fun w' hw' => ?_) ?_; rotate_left; (· go_simp); (· skip; go_simp; rfl); (go_simp))
                  (refine j_take2 12 _ ?_ hs rfl (by kernel_rfl) (by kernel_rfl) HJ.out ?_ (fun w' hw' => ?_) ?_; rotate_left; (· go_simp); (· obtain ⟨d1, d2, l1, l2⟩ := hw'; go_simp; rfl); (go_simp))
                  (refine j_take2 13 _ ?_ hs rfl (by kernel_rfl) (by kernel_rfl) HJ.out ?_ (fun w' hw' => ?_) ?_; rotate_left; (· go_simp); (· skip; go_simp; rfl); (go_simp))
                  (refine j_take 14 _ ?_ hs rfl rfl (by kernel_rfl) (by kernel_rfl) HJ.out (fun w' hw' => ?_) ?_; rotate_left; (· skip; go_simp; rfl); (go_simp))
                  refine j_done (by kernel_rfl) ?_
                  go_wp2_with fail
                  refine wp_region_J1 31 (JM bz oz bu (ou + d) u) (by kernel_rfl) rfl (by kernel_rfl) ⟨HJ.out.c1, HJ.out.c2, HJ.out.l1, HJ.out.l2⟩ (fun w8 hb8 hJ hs => ?_)
                  have HB8 := Lib.hid (HB.out.trans ((HB7.out.trans (hb8.mono (by have := HB7.out.size; omega))).mono zz))
                  replace HJ := Lib.hid hJ
                  clear hb8 hJ
                  (refine j_take 0 _ ?_ hs rfl rfl (by kernel_rfl) (by kernel_rfl) HJ.out (fun w' hw' => ?_) ?_; rotate_left; (· skip; go_simp; rfl); (go_simp))
                  (refine j_take 1 _ ?_ hs rfl rfl (by kernel_rfl) (by kernel_rfl) HJ.out (fun w' hw' => ?_) ?_; rotate_left; (· skip; go_simp; rfl); (go_simp))
                  (refine j_take 2 _ ?_ hs rfl rfl (by kernel_rfl) (by kernel_rfl) HJ.out (fun w' hw' => ?_) ?_; rotate_left; (· skip; go_simp; rfl); (go_simp))
                  (refine j_take 3 _ ?_ hs rfl rfl (by kernel_rfl) (by kernel_rfl) HJ.out (fun w' hw' => ?_) ?_; rotate_left; (· skip; go_simp; rfl); (go_simp))
                  (refine j_take 4 _ ?_ hs rfl rfl (by kernel_rfl) (by kernel_rfl) HJ.out (fun w' hw' => ?_) ?_; rotate_left; (· skip; go_simp; rfl); (go_simp))
                  (refine j_take2 5 _ ?_ hs rfl (by kernel_rfl) (by kernel_rfl) HJ.out ?_ (fun w' hw' => ?_) ?_; rotate_left; (· go_simp); (· skip; go_simp; rfl); (go_simp))
                  (refine j_take2 6 _ ?_ hs rfl (by kernel_rfl) (by kernel_rfl) HJ.out ?_ (fun w' hw' => ?_) ?_; rotate_left; (· go_simp); (· skip; go_simp; rfl); (go_simp))
                  (refine j_take2 7 _ ?_ hs rfl (by kernel_rfl) (by kernel_rfl) HJ.out ?_ (fun w' hw' => ?_) ?_; rotate_left; (· go_simp); (· skip; go_simp; rfl); (go_simp))
                  (refine j_take2 8 _ ?_ hs rfl (by kernel_rfl) (by kernel_rfl) HJ.out ?_ (fun w' hw' => ?_) ?_; rotate_left; (· go_simp); (· obtain ⟨d1, d2, l1, l2⟩ := hw'; go_simp; rfl); (go_simp))
                  (refine j_take2 9 _ ?_ hs rfl (by kernel_rfl) (by kernel_rfl) HJ.out ?_ (fun w' hw' => ?_) ?_; rotate_left; (· go_simp); (· skip; go_simp; rfl); (go_simp))
                  (refine j_take2 10 _ ?_ hs rfl (by kernel_rfl) (by kernel_rfl) HJ.out ?_ (fun w' hw' => ?_) ?_; rotate_left; (· go_simp); (· skip; go_simp; rfl); (go_simp))
                  (refine j_take2 11 _ ?_ hs rfl (by kernel_rfl) (by kernel_rfl) HJ.out ?_ (fun w' hw' => ?_) ?_; rotate_left; (· go_simp); (· skip; go_simp; rfl); (go_simp))
                  (refine j_take2 12 _ ?_ hs rfl (by kernel_rfl) (by kernel_rfl) HJ.out ?_ (fun w' hw' => ?_) ?_; rotate_left; (· go_simp); (· obtain ⟨d1, d2, l1, l2⟩ := hw'; go_simp; rfl); (go_simp))
                  (refine j_take2 13 _ ?_ hs rfl (by kernel_rfl) (by kernel_rfl) HJ.out ?_ (fun w' hw' => ?_) ?_; rotate_left; (· go_simp); (· skip; go_simp; rfl); (go_simp))
                  (refine j_take 14 _ ?_ hs rfl rfl (by kernel_rfl) (by kernel_rfl) HJ.out (fun w' hw' => ?_) ?_; rotate_left; (· skip; go_simp; rfl); (go_simp))
                  (refine j_take 15 _ ?_ hs rfl rfl (by kernel_rfl) (by kernel_rfl) HJ.out (fun w' hw' => ?_) ?_; rotate_left; (· skip; go_simp; rfl); (go_simp))
                  (refine j_take2 16 _ ?_ hs rfl (by kernel_rfl) (by kernel_rfl) HJ.out ?_ (fun w' hw' => ?_) ?_; rotate_left; (· go_simp); (· skip; go_simp; rfl); (go_simp))
                  (refine j_take2 17 _ ?_ hs rfl (by kernel_rfl) (by kernel_rfl) HJ.out ?_ (fun w' hw' => ?_) ?_; rotate_left; (· go_simp); (· skip; go_simp; rfl); (go_simp))
                  (refine j_take2 18 _ ?_ hs rfl (by kernel_rfl) (by kernel_rfl) HJ.out ?_ (fun w' hw' => ?_) ?_; rotate_left; (· go_simp); (· skip; go_simp; rfl); (go_simp))
                  (refine j_skip 19 _ hs rfl (by kernel_rfl) (by kernel_rfl) HJ.out ?_ ?_; (· go_simp); (go_simp))
                  (refine j_skip 20 _ hs rfl (by kernel_rfl) (by kernel_rfl) HJ.out ?_ ?_; (· go_simp); (go_simp))
                  (refine j_skip 21 _ hs rfl (by kernel_rfl) (by kernel_rfl) HJ.out ?_ ?_; (· go_simp); (go_simp))
                  (refine j_skip 22 _ hs rfl (by kernel_rfl) (by kernel_rfl) HJ.out ?_ ?_; (· go_simp); (go_simp))
                  (refine j_skip 23 _ hs rfl (by kernel_rfl) (by kernel_rfl) HJ.out ?_ ?_; (· go_simp); (go_simp))
                  (refine j_skip 24 _ hs rfl (by kernel_rfl) (by kernel_rfl) HJ.out ?_ ?_; (· go_simp); (go_simp))
                  (refine j_skip 25 _ hs rfl (by kernel_rfl) (by kernel_rfl) HJ.out ?_ ?_; (· go_simp); (go_simp))
                  (refine j_skip 26 _ hs rfl (by kernel_rfl) (by kernel_rfl) HJ.out ?_ ?_; (· go_simp); (go_simp))
                  (refine j_skip 27 _ hs rfl (by kernel_rfl) (by kernel_rfl) HJ.out ?_ ?_; (· go_simp); (go_simp))
                  (refine j_skip 28 _ hs rfl (by kernel_rfl) (by kernel_rfl) HJ.out ?_ ?_; (· go_simp); (go_simp))
                  (refine j_take2 29 _ ?_ hs rfl (by kernel_rfl) (by kernel_rfl) HJ.out ?_ (fun w' hw' => ?_) ?_; rotate_left; (· go_simp); (· skip; go_simp; rfl); (go_simp))
                  (refine j_take 30 _ ?_ hs rfl rfl (by kernel_rfl) (by kernel_rfl) HJ.out (fun w' hw' => ?_) ?_; rotate_left; (· skip; go_simp; rfl); (go_simp))
                  refine j_done (by kernel_rfl) ?_
                  go_wp2_with fail
                  refine ⟨⟨d, 0 + 1, by omega, by omega, by first | rfl | go_num, by go_num, ?_, HB8.out⟩, by simp [intOf]; omega⟩
                  intro z2 h2 j' u' hj h
                  have g1 := HJH.out j' u' hj h
                  have g2 := (sorted_at O1.out EZ.out h2).1 (by omega)
                  omega
                · obtain ⟨j, rfl⟩ : ∃ j, i = j + 1 := ⟨i - 1, by omega⟩
                  obtain ⟨bx, ox, z', hsl, hbx, ex, dx, xr1, xr2⟩ := (U5.out.keep (HB.out.trans (HB2.out.mono zz))).at (k := j) (by omega)
                  cases hsl
                  have hzz := (sorted_at O1.out ex EZ.out).1 (by omega)
                  clear ex
                  have hj64 : (j : Int) < (n5 : Int) := by omega
                  have hj65 : (j : Int) + 1 < (n5 : Int) := by omega
                  have hjw : wrap64 ((j : Int) + 1 - 1) = (j : Int) := by rw [Int.add_sub_cancel]; exact wrap_self (by omega) (by omega)
                  have hjw3 : IntKind.i64.wrap (j : Int) = (j : Int) := wrap_i (by omega) (by omega)
                  have HLE : Hid (decide (u ≤ z') = false) := Lib.hid (decide_eq_false (by omega))
                  have hjx : (j : Int) + 1 - 1 = (j : Int) := by omega
                  have hjw2 : wrap64 (j : Int) = (j : Int) := wrap_self (by omega) (by omega)
                  go_wp2_with fail
                  refine wp_region_G TN (by kernel_rfl) (by kernel_rfl) ?_
                  repeat' (refine wpG_step' (fun K hA hK => ?_); go_simp; first | (refine bothG_value hA (v := ?_) (fun w' hw' => ?_) ?_; rotate_left; (· go_simp; rfl); (refine hK _ _ ?_; clear hK hA K)) | (refine hK _ _ ?_; clear hK hA K))
                  refine wpG_nil ?_
                  intro w7 hb7 hF
                  have HB7 := Lib.hid (HB2.out.trans (hb7.mono zz2))
                  have DZ7 := (hb7.cell (p := ⟨bz, oz + (j + 1), none⟩) zbz).trans DZ
                  have du7 := (hb7.cell (p := ⟨bu, ou + d, none⟩) hbu).trans du
                  have dx7 := (hb7.cell (p := ⟨bz, oz + j, none⟩) hbx).trans dx
                  have zz7 := hb7.size
                  have zbu7 : bu < w7.heap.size := by omega
                  have zbz7 : bz < w7.heap.size := by omega
                  clear hF hb7 du DZ dx
                  go_wp2_with fail
                  refine wp_region_G TN (by kernel_rfl) (by kernel_rfl) ?_
                  repeat' (refine wpG_step' (fun K hA hK => ?_); go_simp; first | (refine bothG_value hA (v := ?_) (fun w' hw' => ?_) ?_; rotate_left; (· go_simp; rfl); (refine hK _ _ ?_; clear hK hA K)) | (refine hK _ _ ?_; clear hK hA K))
                  refine wpG_nil ?_
                  intro w8 hb8 hF
                  have HB8 := Lib.hid (HB.out.trans ((HB7.out.trans (hb8.mono (by omega))).mono zz))
                  clear hF hb8
                  rw [HDN.out, HLE.out]
                  simp only [Bool.or_self, Act.put]
                  clear DZ7 dx7 du7 zz7 zbu7 zbz7 hjw hjw2 hjw3 hjx hj64 hj65
                  go_wp2_with fail
                  refine ⟨⟨d, j + 1 + 1, by omega, by omega, by first | rfl | go_num, by go_num, ?_, HB8.out⟩, by simp [intOf]; omega⟩
                  intro z2 h2 j' u' hj h
                  have g1 := HJ.out j' u' hj h
                  have g2 := (sorted_at O1.out EZ.out h2).1 (by omega)
                  omega
            · exfalso
              have g1 := (List.getElem?_eq_some_iff.1 HPz.out).1
              have g2 := U6.out.len
              have := HJ.out p z (by omega) HPz.out
              omega
        · obtain rfl : i = n5 := by omega
          have BS := bst_spec (L := P) 8192
          have BE := BW.eq
          have SF : ∀ d : Int, (nearL P d 8192).Pairwise (· < ·) := fun d => near_sorted 8192
          have SM : ∀ d v : Int, v ∈ nearL P d 8192 ↔ ∃ k : Nat, k < 8192 ∧ v = k ∧ farL k P 0 ≤ d := fun d v => near_mem
          generalize bst P 8192 = bb at BS BE
          obtain ⟨bx, bd⟩ := bb
          obtain ⟨yy, s1, s2, s3, s4, s5⟩ := BS
          simp only at s2 s3 s4 s5 BE
          have sd0 : 0 ≤ bd := by rw [s3]; exact (F0.out _).1
          have sd1 : bd ≤ f := Int.le_trans (s4 y.toNat (by omega)) (by rw [Int.toNat_of_nonneg y0]; exact FX.out)
          have FST : ∃ N3, nearL P bd 8192 = N3 ∧ N3[0]? = some bx := ⟨_, rfl, sorted_first (SF bd) ((SM bd bx).2 ⟨yy, by omega, s2, by rw [s3]; exact Int.le_refl _⟩) (fun v hv => by
            obtain ⟨k, k1, rfl, k3⟩ := (SM bd v).1 hv
            apply Decidable.byContradiction
            intro hn
            have := s5 k (by omega)
            omega)⟩
          have NON : 0 < bd → nearL P (bd - 1) 8192 = [] := fun h => List.eq_nil_iff_forall_not_mem.2 (fun v hv => by
            obtain ⟨k, k1, rfl, k3⟩ := (SM (bd - 1) v).1 hv
            have := s4 k k1
            omega)
          obtain ⟨N3, hN3, h30⟩ := FST
          have H30 := Lib.hid h30
          have HN3 := Lib.hid hN3
          have HNON := Lib.hid NON
          have PK6 := Lib.hid (PK5.out.keep HB.out)
          have HBE := Lib.hid BE
          clear BE BW SF SM s1 s2 s3 s4 s5 F0 FX NON h30 hN3 HI U5 U6 O1 O2 WD YM
          go_wp2_with fail
          refine (best_walk a4 a3 k k cap4 cap3 R L 8192 wr PK6.out.r PK6.out.l (by omega) (by omega)).mono ?_; rintro e w6 ⟨rfl, b6⟩
          rw [HBE.out]
          have PK7 := Lib.hid (PK6.out.keep b6)
          clear b6 PK6 HB HBE
          go_wp2_with fail
          refine (nearS_walk a4 a3 k cap4 cap3 R L P w6 w bd HP.out PK7.out L5.out HM.out sd0 (by omega)).mono ?_; rintro e w7 ⟨a8, n8, c8, rfl, s8, l8, b7⟩
          rw [HN3.out] at s8
          have PK8 := Lib.hid (PK7.out.keep b7)
          have h8 : 0 < n8 := by
            have h1 := (List.getElem?_eq_some_iff.1 H30.out).1
            have h2 := s8.len
            omega
          obtain ⟨b8, o8, x8, rfl, hb8, e8, d8, _, _⟩ := s8.at (k := 0) h8
          obtain rfl : x8 = bx := by rw [H30.out] at e8; exact (Option.some.inj e8).symm
          rw [Nat.add_zero] at d8
          have h8i : ¬ (n8 : Int) = 0 := by omega
          have h8j : (0 : Int) < (n8 : Int) := by omega
          clear e8 s8 b7 PK7
          by_cases hbd : 0 < bd
          · have hw1 : wrap64 (bd - 1) = bd - 1 := wrap_self (by omega) (by omega)
            have hnil := Lib.hid (HNON.out hbd)
            clear HNON
            go_wp2_with fail
            refine (nearS_walk a4 a3 k cap4 cap3 R L P w7 w (bd - 1) HP.out PK8.out L5.out HM.out (by omega) (by omega)).mono ?_; rintro e w8 ⟨a9, n9, c9, rfl, s9, l9, b8'⟩
            rw [hnil.out] at s9
            have hn9 : n9 = 0 := by have := s9.len; simpa using this.symm
            subst hn9
            have PK9 := Lib.hid (PK8.out.keep b8')
            clear s9 b8' PK8
            go_wp2_with fail
            refine (wakes_walk _).mono ?_; rintro e w9 ⟨rfl, b9⟩
            have B9 := Lib.hid (PK9.out.b.trans (b9.mono PK9.out.b.size))
            clear b9
            go_wp2_with fail
            go_ret
            exact ⟨rfl, B9.out⟩
          · clear HNON
            go_wp2_with fail
            refine (wakes_walk _).mono ?_; rintro e w9 ⟨rfl, b9⟩
            have B9 := Lib.hid (PK8.out.b.trans (b9.mono PK8.out.b.size))
            clear b9
            go_wp2_with fail
            go_ret
            exact ⟨rfl, B9.out⟩
end Go.Proofs.Ytepoionjcjgnjaa
