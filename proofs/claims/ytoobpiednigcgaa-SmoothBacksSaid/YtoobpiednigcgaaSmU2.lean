import Derived.Test.YtoobpiednigcgaaSmD
import Derived.Test.YtoobpiednigcgaaSmS
import Derived.Test.YtoobpiednigcgaaSmU1
import Derived.Test.YtoobpiednigcgaaSmY
import Derived.Test.YtoobpiednigcgaaSmK
import Derived.Test.YtoobpiednigcgaaFlQ
import Derived.Deep.DeepCutAuto
import Derived.Deep.CutBlock
set_option autoImplicit false
set_option linter.unusedVariables false
namespace Go.Proofs.Ytoobpiednigcgaa
open Go.RowKit Go.ChangeShapes Go.WideShapes Go.ChangeAt Lk
theorem Try.und22s : Try.prog.underlying 22 = some (.slice 27) := by kernel_rfl
set_option maxRecDepth 100000 in
theorem ss_arg {W : World} {base : Nat} {v : Value} (h1 : Value.okWide Try.prog W .any base 22 v) (h2 : Rd Try.prog W 22 v.cells.toList) : ∃ a n cap M, v = .slice a n cap ∧ Ss W a n cap M := by
  obtain ⟨ao, len, cap, hv, g1, g2, g3⟩ := rd_row (P := Try.prog) (t := 22) (e := 27) (n := 5) Try.und22s (by kernel_rfl) (by decide) h2
  have hnil : ao = none → cap = 0 := by
    intro h0
    rcases rd_slice (P := Try.prog) (t := 22) (e := 27) Try.und22s (by rw [show Try.prog.cellsOf 27 = 5 by kernel_rfl]; decide) h2 with h | ⟨b, l', c', h, _⟩
    · rw [hv] at h; simp at h; exact h.2.2
    · rw [hv] at h; simp at h; rw [h0] at h; cases h.1
  obtain ⟨a1, n1, c1, rfl⟩ := Go.WideShapes.okWide_slice Try.und22s h1
  obtain ⟨rfl, rfl, rfl⟩ : a1 = ao ∧ n1 = len ∧ c1 = cap := by simpa [Value.cells] using hv
  rcases g3 with h0 | ⟨b, off, hb, rfl, hc⟩
  · exact ⟨a1, n1, c1, [], rfl, by rw [h0]; rfl, g1, by unfold maxLen at g2; omega, (fun x hx => by cases hx), .inl h0, hnil⟩
  · have key : ∀ i, ∃ s : St, i < n1 → At5 W b (off + i * 5) s ∧ St.Lt s := by
      intro i
      by_cases hi : i < n1
      · obtain ⟨cs, hl, hcell, hr⟩ := hc i hi
        obtain ⟨_, hf⟩ := rd_struct Try.underlying27 hr
        match cs, hl with
        | [c0, c1, c2, c3, c4], _ =>
          have d24 : Try.prog.cellsOf 24 = 1 := by kernel_rfl
          obtain ⟨x0, e0, l0⟩ := rd_float Try.underlying24 (by simpa using hf 0 _ rfl)
          obtain ⟨x1, e1, l1⟩ := rd_float Try.underlying24 (by simpa using hf 1 _ rfl)
          obtain ⟨x2, e2, l2⟩ := rd_float Try.underlying24 (by simpa using hf 2 _ rfl)
          obtain ⟨x3, e3, l3⟩ := rd_float Try.underlying24 (by simpa using hf 3 _ rfl)
          obtain ⟨x4, e4, l4⟩ := rd_float Try.underlying24 (by simpa using hf 4 _ rfl)
          obtain rfl : c0 = .float .f64 x0 := by simpa [d24] using e0
          obtain rfl : c1 = .float .f64 x1 := by simpa [d24] using e1
          obtain rfl : c2 = .float .f64 x2 := by simpa [d24] using e2
          obtain rfl : c3 = .float .f64 x3 := by simpa [d24] using e3
          obtain rfl : c4 = .float .f64 x4 := by simpa [d24] using e4
          refine ⟨⟨x0, x1, x2, x3, x4⟩, fun _ => ⟨⟨?_, ?_, ?_, ?_, ?_⟩, ⟨l0, l1, l2, l3, l4⟩⟩⟩
          · have := hcell 0 (by decide); rwa [← Nat.add_assoc] at this
          · have := hcell 1 (by decide); rwa [← Nat.add_assoc] at this
          · have := hcell 2 (by decide); rwa [← Nat.add_assoc] at this
          · have := hcell 3 (by decide); rwa [← Nat.add_assoc] at this
          · have := hcell 4 (by decide); rwa [← Nat.add_assoc] at this
      · exact ⟨⟨0, 0, 0, 0, 0⟩, fun h => absurd h hi⟩
    obtain ⟨f, hf⟩ := Classical.axiomOfChoice key
    refine ⟨_, n1, c1, (List.range n1).map f, rfl, by simp, g1, by unfold maxLen at g2; omega, fun x hx => ?_, .inr ⟨b, off, rfl, hb, fun j hj => ?_⟩, hnil⟩
    · obtain ⟨j, hj, rfl⟩ := List.mem_map.1 hx
      exact (hf j (List.mem_range.1 hj)).2
    · have hj' : j < n1 := by simpa using hj
      have e : ((List.range n1).map f)[j] = f j := by simp
      rw [e]; exact (hf j hj').1
theorem fneg_lt (x : Nat) : fneg x < 2 ^ 64 := by
  have := rg_lt x
  unfold fneg wd
  unfold SGN at *
  split <;> omega
theorem fls_snoc' (l : List Nat) (x : Nat) : fls (l ++ [x]) = fls l ++ [.float .f64 x] := by simp [fls]
theorem take_snoc'' {l : List Nat} {k x : Nat} (h : l[k]? = some x) : l.take (k + 1) = l.take k ++ [x] := by rw [List.take_add_one, h]; rfl
/-- the last state, as it stands in both lists -/
structure JL (b o b' o' : Nat) (s : St) (x : World) : Prop where
  sa : At5 x b o s
  sb : At5 x b' o' s
  la : b < x.heap.size
  lb : b' < x.heap.size
set_option maxRecDepth 100000 in
set_option maxHeartbeats 8000000 in
theorem turned_law (p0 : Option Addr) (n c0 : Nat) (t : List Nat) (p1 : Option Addr) (m c1 : Nat) (x : List Nat) (a b : Nat) (p4 : Option Addr) (N c4 : Nat) (L : List St) (p5 : Option Addr) (M c5 : Nat) (S : List Nat) (q : Nat) (w : World)
    (s0 : Fs w p0 n c0 t) (s1 : Fs w p1 m c1 x) (ha : a < 2 ^ 64) (hb : b < 2 ^ 64) (s4 : Ss w p4 N c4 L) (s5 : Fs w p5 M c5 S) (hq : q < 2 ^ 64) :
    Calls Try.prog 6 #[.slice p0 n c0, .slice p1 m c1, .float .f64 a, .float .f64 b, .slice p4 N c4, .slice p5 M c5, .float .f64 q] w (fun e w' => e = .returned (.bool true) ∧ Below w.heap.size w w') := by
  have n63 : n ≤ 9223372036854775807 := Nat.le_trans s0.le s0.small
  have m63 : m ≤ 9223372036854775807 := Nat.le_trans s1.le s1.small
  have N63 : N ≤ 9223372036854775807 := Nat.le_trans s4.le s4.small
  have m64 := s1.le
  have m65 := s1.small
  have S0 := Lib.hid s0
  have S1 := Lib.hid s1
  have S4 := Lib.hid s4
  have S5 := Lib.hid s5
  clear s0 s1 s4 s5
  by_cases g : n ≤ 1048576 ∧ m ≤ 1048576 ∧ N ≤ 1048576
  case neg =>
    have hz : (1048576 : Int) < (n : Int) ∨ (¬ (1048576 : Int) < (n : Int) ∧ (1048576 : Int) < (m : Int)) ∨ (¬ (1048576 : Int) < (n : Int) ∧ ¬ (1048576 : Int) < (m : Int) ∧ (1048576 : Int) < (N : Int)) := by omega
    clear g S0 S1 S4 S5
    rcases hz with z | ⟨z1, z⟩ | ⟨z1, z2, z⟩
    all_goals
      go_enter Try.func6, Try.ntmps6
      go_wp2_with fail
      refine (works_walk _).mono ?_
      rintro e w1 ⟨rfl, b1⟩
      have B1 := Lib.hid b1
      clear b1
      go_wp2_with fail
      refine (works_walk _).mono ?_
      rintro e w2 ⟨rfl, b2⟩
      have B2 := Lib.hid (B1.out.trans (b2.mono B1.out.size))
      clear b2
      go_wp2_with fail
      go_ret
      exact ⟨rfl, B2.out⟩
  obtain ⟨g1, g2, g3⟩ := g
  have g1i : ¬ (1048576 : Int) < (n : Int) := by omega
  have g2i : ¬ (1048576 : Int) < (m : Int) := by omega
  have g3i : ¬ (1048576 : Int) < (N : Int) := by omega
  go_enter Try.func6, Try.ntmps6
  go_wp2_with fail
  refine (works_walk _).mono ?_
  rintro e w1 ⟨rfl, b1⟩
  have B1 := Lib.hid b1
  clear b1
  go_wp2_with fail
  go_loopw [15, 48] (fun v i wr => ∃ k : Nat, i = .int .i64 k ∧ k ≤ m ∧ wr.ownsRow w1.heap.size 24 1 v k (fls ((x.take k).map fneg)) ∧ Below w1.heap.size w1 wr) (fun _ i _ => m - (intOf i).toNat)
  case atStart => exact ⟨0, rfl, by omega, World.ownsRow_nil _ _ _ _, Below.refl _ _⟩
  case round =>
    obtain ⟨k, rfl, hk, ow, bb⟩ := hrel
    obtain ⟨pa, ca, rfl⟩ := own_form ow
    have OW := Lib.hid ow
    have BB := Lib.hid bb
    clear ow bb
    by_cases hlt : k < m
    · obtain ⟨b1, o1, z, rfl, hb1, hz, c0', zl⟩ := (S1.out.keep (B1.out.trans (BB.out.mono B1.out.size))).at hlt
      have NG := neg_fneg z zl
      have HZ := Lib.hid (show (x.take (k + 1)).map fneg = (x.take k).map fneg ++ [fneg z] by rw [take_snoc'' hz, List.map_append]; rfl)
      have km : (k : Int) < (m : Int) := by omega
      have zz := BB.out.size
      clear hz zl
      go_wp2_with (refine wpList_append_x rfl (.tmp 52) (.tmp 55) rfl w1.heap.size _ k (fls ((x.take k).map fneg)) rfl (OW.out.alloc _) rfl (Deep.blk_alloc_new wr _) (by omega) (by simp; omega) ?_; intro g5 c5' w5 ow gr; have B5 := Lib.hid (grownB (BB.out.alloc zz _) gr (OW.out.alloc _) (by simp; omega)); have O5 := Lib.hid ow; clear ow gr)
      go_roundw
      case rel => exact ⟨k + 1, by go_num, by omega, by rw [HZ.out, fls_snoc']; exact O5.out, B5.out⟩
      case measure => simp only [intOf]; omega
    · obtain rfl : k = m := by omega
      have tk : x.take k = x := List.take_of_length_le (by rw [S1.out.len]; exact Nat.le_refl _)
      have ow := OW.out
      rw [tk] at ow
      obtain ⟨_, _, hv, f2⟩ := own_fs ow (fun z hz => by obtain ⟨u, _, rfl⟩ := List.mem_map.1 hz; exact fneg_lt u)
      cases hv
      have F2 := Lib.hid f2
      have B2 := Lib.hid (B1.out.trans (BB.out.mono B1.out.size))
      have G0 := Lib.hid (S0.out.keep B2.out)
      have G1 := Lib.hid (S1.out.keep B2.out)
      have G4 := Lib.hid (S4.out.keep B2.out)
      have G5 := Lib.hid (S5.out.keep B2.out)
      clear ow f2 tk OW BB B1 S0 S1 S4 S5
      go_wp2_with fail
      refine (turns_walk p0 p1 n k c0 c1 t x a _ G0.out G1.out).mono ?_
      rintro e w3 ⟨v, rfl, ow, b3⟩
      obtain ⟨pc, cc, rfl, ic⟩ := own_is ow
      have IC := Lib.hid ic
      have B3 := Lib.hid (B2.out.trans (b3.mono B2.out.size))
      have H0 := Lib.hid (G0.out.keep b3)
      have H1 := Lib.hid (G1.out.keep b3)
      have H2 := Lib.hid (F2.out.keep b3)
      have H4 := Lib.hid (G4.out.keep b3)
      have H5 := Lib.hid (G5.out.keep b3)
      clear ow ic b3 G0 G1 F2 G4 G5 B2
      go_wp2_with fail
      refine (turns_walk p0 pa n k c0 ca t (x.map fneg) a _ H0.out H2.out).mono ?_
      rintro e w4 ⟨v, rfl, ow, b4⟩
      rw [turnsR_neg] at ow
      rw [turnsE_neg]
      obtain ⟨pd, cd, rfl, id4⟩ := own_is ow
      have ID := Lib.hid id4
      have IC4 := Lib.hid (IC.out.keep b4)
      have B4 := Lib.hid (B3.out.trans (b4.mono B3.out.size))
      have J0 := Lib.hid (H0.out.keep b4)
      have J1 := Lib.hid (H1.out.keep b4)
      have J4 := Lib.hid (H4.out.keep b4)
      have J5 := Lib.hid (H5.out.keep b4)
      have TUP := Lib.hid (turns_up t x a)
      have TLE := Lib.hid (fun h1 h2 => turnsE_less (t := t) (x := x) (a := a) (b := b) h1 h2)
      have TSB := Lib.hid (fun h1 h2 => turns_sub (t := t) (x := x) (a := a) (b := b) h1 h2)
      have CS := IC.out.small
      clear ow id4 b4 H0 H1 H2 H4 H5 B3 IC
      generalize turnsE t x a = E at TLE TSB ⊢
      generalize turnsR t x a = Rc at ID IC4 TUP TSB CS ⊢
      go_wp2_with fail
      refine (ints_same pc pd Rc.length cc cd Rc _ IC4.out ID.out).mono ?_
      rintro e w5 ⟨rfl, b5⟩
      have IC5 := Lib.hid (IC4.out.keep b5)
      have B5 := Lib.hid (B4.out.trans (b5.mono B4.out.size))
      have K0 := Lib.hid (J0.out.keep b5)
      have K1 := Lib.hid (J1.out.keep b5)
      have K4 := Lib.hid (J4.out.keep b5)
      have K5 := Lib.hid (J5.out.keep b5)
      clear b5 ID IC4 B4 J0 J1 J4 J5
      go_wp2_with fail
      refine (turns_walk p0 p1 n k c0 c1 t x b _ K0.out K1.out).mono ?_
      rintro e w6 ⟨v, rfl, ow, b6⟩
      obtain ⟨pe, ce, rfl, ie⟩ := own_is ow
      have IE := Lib.hid ie
      have IC6 := Lib.hid (IC5.out.keep b6)
      have B6 := Lib.hid (B5.out.trans (b6.mono B5.out.size))
      have Q4 := Lib.hid (K4.out.keep b6)
      have Q5 := Lib.hid (K5.out.keep b6)
      have TUB := Lib.hid (turns_up t x b)
      have DS := IE.out.small
      clear ow ie b6 IC5 B5 K0 K1 K4 K5
      generalize turnsE t x b = E2 at TLE ⊢
      generalize turnsR t x b = Rd at IE TUB TSB DS ⊢
      obtain ⟨nc, hnc⟩ : ∃ nc, nc = Rc.length := ⟨_, rfl⟩
      obtain ⟨nd, hnd⟩ : ∃ nd, nd = Rd.length := ⟨_, rfl⟩
      rw [← hnc] at IC6 CS ⊢
      rw [← hnd] at IE DS ⊢
      have NC := Lib.hid hnc
      have ND := Lib.hid hnd
      clear hnc hnd
      go_upto_region 14 with fail
      go_cut [94] (fun s94 wx => ∃ Bq : Bool, s94 = .bool Bq ∧ (Bq = true → cle a b = true ∧ E = 0) ∧ wx = w6)
      case first =>
        cases hc : cle a b with
        | false =>
          have oc : (FloatKind.f64.format.order a b == some Ordering.lt || FloatKind.f64.format.order a b == some Ordering.eq) = false := hc
          go_wp2_with fail
          go_meet
          exact ⟨false, rfl, (fun h => by cases h), rfl⟩
        | true =>
          have oc : (FloatKind.f64.format.order a b == some Ordering.lt || FloatKind.f64.format.order a b == some Ordering.eq) = true := hc
          by_cases hE : E = 0
          · have hEb : (E == 0) = true := by rw [hE]; rfl
            have HE := Lib.hid hE
            clear hE
            go_wp2_with fail
            go_meet
            exact ⟨true, rfl, fun h => ⟨hc, HE.out⟩, rfl⟩
          · have hEb : (E == 0) = false := by rw [beq_eq_false_iff_ne]; exact hE
            go_wp2_with fail
            go_meet
            exact ⟨false, rfl, (fun h => by cases h), rfl⟩
      case rest =>
      obtain ⟨Bq, rfl, hBq, rfl⟩ := hcut
      have HBQ := Lib.hid hBq
      clear hBq
      go_upto_if 94 with fail
      go_cut [] (fun wx => Below wc.heap.size wc wx)
      case first =>
        cases Bq with
        | false =>
          go_wp2_with fail
          go_meet
          exact Below.refl _ _
        | true =>
          obtain ⟨hab, hE0⟩ := HBQ.out rfl
          have SUB := Lib.hid (TSB.out hab hE0)
          have E20 := TLE.out hab hE0
          subst E20
          clear TSB TLE HBQ hab
          go_wp2_with fail
          obtain ⟨w0, e0⟩ : ∃ w0, w0 = wc := ⟨_, rfl⟩
          subst e0
          go_loopw [22, 97] (fun vk i wr => ∃ (j kk : Nat), i = .int .i64 j ∧ j ≤ nd ∧ vk = .int .i64 kk ∧ Mg2 Rc Rd j kk ∧ Below w0.heap.size w0 wr) (fun _ i _ => nd - (intOf i).toNat)
          case atStart => exact ⟨0, 0, rfl, by omega, rfl, mg2_start _ _, Below.refl _ _⟩
          case round =>
            obtain ⟨j, kk, rfl, hj, rfl, mg, bb⟩ := hrel
            have MG := Lib.hid mg
            have BB := Lib.hid bb
            clear mg bb
            by_cases hjn : j < nd
            · obtain ⟨b1, o1, u, rfl, hb1, hu, cu⟩ := (IE.out.keep BB.out).at hjn
              have HU := Lib.hid hu
              have jn : (j : Int) < (nd : Int) := by omega
              clear hu
              go_wp2_with fail
              obtain ⟨w9, e9⟩ : ∃ w9, w9 = wr := ⟨_, rfl⟩
              subst e9
              go_loopw [22] (fun vk wr => ∃ kk : Nat, vk = .int .i64 kk ∧ Mg2 Rc Rd j kk ∧ w9 = wr) (fun vk _ => nc - (intOf vk).toNat)
              case atStart => exact ⟨kk, rfl, MG.out, rfl⟩
              case round =>
                obtain ⟨q2, rfl, mg, e9⟩ := hrel
                subst e9
                have MG2 := Lib.hid mg
                clear mg
                by_cases hq2 : q2 < nc
                · obtain ⟨b2, o2, v, rfl, hb2, hv, cv⟩ := (IC6.out.keep BB.out).at hq2
                  have HV := Lib.hid hv
                  have q2n : (q2 : Int) < (nc : Int) := by omega
                  clear hv
                  by_cases hvu : v < u
                  · have hvi : (v : Int) < (u : Int) := by omega
                    have NX := Lib.hid (mg2_next TUB.out MG2.out HV.out HU.out hvu)
                    go_wp2_with fail
                    go_roundw
                    case rel => exact ⟨q2 + 1, by go_num, NX.out, trivial⟩
                    case measure => simp only [intOf]; omega
                  · have FD := mg2_found TUP.out SUB.out MG2.out HU.out (fun v' h => by rw [HV.out] at h; cases h; exact hvu)
                    rw [HV.out] at FD
                    obtain rfl : v = u := Option.some.inj FD
                    have NX := Lib.hid (mg2_step MG2.out)
                    have q2ne : ((q2 : Int) == (nc : Int)) = false := by rw [beq_eq_false_iff_ne]; omega
                    clear FD hvu
                    go_wp2_with fail
                    go_roundw
                    case rel => exact ⟨j + 1, q2, by go_num, by omega, rfl, NX.out, BB.out⟩
                    case measure => simp only [intOf]; omega
                · exfalso
                  have FD := mg2_found TUP.out SUB.out MG2.out HU.out (fun v' h => by
                    have := (List.getElem?_eq_some_iff.1 h).1
                    have := NC.out
                    omega)
                  have := (List.getElem?_eq_some_iff.1 FD).1
                  have := NC.out
                  omega
            · go_wp2_with fail
              go_meet
              exact BB.out
      case rest =>
        have B7 := Lib.hid (B6.out.trans (hcut.mono B6.out.size))
        have R4 := Lib.hid (Q4.out.keep hcut)
        have R5 := Lib.hid (Q5.out.keep hcut)
        clear hcut IE IC6 B6 Q4 Q5 TUB TUP TLE TSB NC ND HBQ
        go_wp2_with fail
        refine (back_walk p4 p5 N M c4 c5 L S q _ R4.out R5.out hq).mono ?_
        rintro e w8 ⟨v8, rfl, rs, b8⟩
        have B8 := Lib.hid (B7.out.trans (b8.mono B7.out.size))
        have T4 := Lib.hid (R4.out.keep b8)
        have LN := Lib.hid R4.out.len
        clear b8 R4 R5 B7
        by_cases hE : backE L S q = 0
        · have hR : backR L S q = backL L S q := by unfold backR; rw [if_pos hE]
          rw [hR] at rs
          have MAY := Lib.hid (back_may hE)
          have LTT := Lib.hid (back_lt (sec := S) (q := q) T4.out.lt)
          have BL : Hid ((backL L S q).length = N) := Lib.hid (by rw [back_len]; exact LN.out)
          have LAST := Lib.hid (fun n h => back_last (l := L) (sec := S) (q := q) (n := n) h)
          have hEb : (backE L S q == 0) = true := by rw [hE]; rfl
          rw [hE]
          clear hR hE hEb
          generalize backL L S q = R at rs MAY LTT BL LAST
          have rs2 : (v8 = .slice none 0 0 ∧ N = 0) ∨ ∃ g co, v8 = .slice (some ⟨g, 0, none⟩) N co ∧ OutS w8 g R ∧ N ≤ co ∧ co ≤ 9223372036854775807 := by
            rcases rs with ⟨h1, h2⟩ | ⟨g, co, h1, _, h3, h4, h5⟩
            · left; refine ⟨h1, ?_⟩; rw [← BL.out, h2]; rfl
            · right; rw [BL.out] at h1 h3; exact ⟨g, co, h1, h5, h3, h4⟩
          clear rs
          obtain ⟨p8, co8, rfl, e8⟩ : ∃ p8 co8, v8 = .slice p8 N co8 ∧ (N = 0 ∨ ∃ g, p8 = some ⟨g, 0, none⟩ ∧ OutS w8 g R) := by
            rcases rs2 with ⟨h1, h2⟩ | ⟨g, co, h1, h2, _, _⟩
            · exact ⟨none, 0, by rw [h1, h2], .inl h2⟩
            · exact ⟨_, co, h1, .inr ⟨g, rfl, h2⟩⟩
          have E8 := Lib.hid e8
          clear rs2 e8
          go_upto_region 29 with fail
          go_cut [166] (fun s166 wx => s166 = .bool false ∧ Below w8.heap.size w8 wx)
          case first =>
            by_cases h0 : N = 0
            · subst h0
              clear E8 LAST MAY LTT BL
              refine wp_region_J1 25 (fun x => Below w8.heap.size w8 x) (by kernel_rfl) rfl (by kernel_rfl) (Below.refl _ w8).drew (fun wj hbj hJ hs => ?_)
              have HJ := Lib.hid hJ
              clear hbj hJ
              (refine j_take 0 _ ?_ hs rfl rfl (by kernel_rfl) (by kernel_rfl) HJ.out (fun w' hw' => ?_) ?_; rotate_left; (· skip; go_simp; rfl); (go_simp))
              (refine j_take 1 _ ?_ hs rfl rfl (by kernel_rfl) (by kernel_rfl) HJ.out (fun w' hw' => ?_) ?_; rotate_left; (· skip; go_simp; rfl); (go_simp))
              (refine j_take 2 _ ?_ hs rfl rfl (by kernel_rfl) (by kernel_rfl) HJ.out (fun w' hw' => ?_) ?_; rotate_left; (· skip; go_simp; rfl); (go_simp))
              (refine j_take 3 _ ?_ hs rfl rfl (by kernel_rfl) (by kernel_rfl) HJ.out (fun w' hw' => ?_) ?_; rotate_left; (· skip; go_simp; rfl); (go_simp))
              (refine j_take 4 _ ?_ hs rfl rfl (by kernel_rfl) (by kernel_rfl) HJ.out (fun w' hw' => ?_) ?_; rotate_left; (· skip; go_simp; rfl); (go_simp))
              (refine j_take 5 _ ?_ hs rfl rfl (by kernel_rfl) (by kernel_rfl) HJ.out (fun w' hw' => ?_) ?_; rotate_left; (· skip; go_simp; rfl); (go_simp))
              (refine j_take2 6 _ ?_ hs rfl (by kernel_rfl) (by kernel_rfl) HJ.out ?_ (fun w' hw' => ?_) ?_; rotate_left; (· go_simp); (· skip; go_simp; rfl); (go_simp))
              (refine j_take2 7 _ ?_ hs rfl (by kernel_rfl) (by kernel_rfl) HJ.out ?_ (fun w' hw' => ?_) ?_; rotate_left; (· go_simp); (· skip; go_simp; rfl); (go_simp))
              (refine j_take2 8 _ ?_ hs rfl (by kernel_rfl) (by kernel_rfl) HJ.out ?_ (fun w' hw' => ?_) ?_; rotate_left; (· go_simp); (· skip; go_simp; rfl); (go_simp))
              (refine j_take2 9 _ ?_ hs rfl (by kernel_rfl) (by kernel_rfl) HJ.out ?_ (fun w' hw' => ?_) ?_; rotate_left; (· go_simp); (· skip; go_simp; rfl); (go_simp))
              (refine j_skip 10 _ hs rfl (by kernel_rfl) (by kernel_rfl) HJ.out ?_ ?_; (· go_simp); (go_simp))
              (refine j_skip 11 _ hs rfl (by kernel_rfl) (by kernel_rfl) HJ.out ?_ ?_; (· go_simp); (go_simp))
              (refine j_skip 12 _ hs rfl (by kernel_rfl) (by kernel_rfl) HJ.out ?_ ?_; (· go_simp); (go_simp))
              (refine j_skip 13 _ hs rfl (by kernel_rfl) (by kernel_rfl) HJ.out ?_ ?_; (· go_simp); (go_simp))
              (refine j_skip 14 _ hs rfl (by kernel_rfl) (by kernel_rfl) HJ.out ?_ ?_; (· go_simp); (go_simp))
              (refine j_skip 15 _ hs rfl (by kernel_rfl) (by kernel_rfl) HJ.out ?_ ?_; (· go_simp); (go_simp))
              (refine j_skip 16 _ hs rfl (by kernel_rfl) (by kernel_rfl) HJ.out ?_ ?_; (· go_simp); (go_simp))
              (refine j_skip 17 _ hs rfl (by kernel_rfl) (by kernel_rfl) HJ.out ?_ ?_; (· go_simp); (go_simp))
              (refine j_skip 18 _ hs rfl (by kernel_rfl) (by kernel_rfl) HJ.out ?_ ?_; (· go_simp); (go_simp))
              (refine j_skip 19 _ hs rfl (by kernel_rfl) (by kernel_rfl) HJ.out ?_ ?_; (· go_simp); (go_simp))
              (refine j_skip 20 _ hs rfl (by kernel_rfl) (by kernel_rfl) HJ.out ?_ ?_; (· go_simp); (go_simp))
              (refine j_skip 21 _ hs rfl (by kernel_rfl) (by kernel_rfl) HJ.out ?_ ?_; (· go_simp); (go_simp))
              (refine j_skip 22 _ hs rfl (by kernel_rfl) (by kernel_rfl) HJ.out ?_ ?_; (· go_simp); (go_simp))
              (refine j_take2 23 _ ?_ hs rfl (by kernel_rfl) (by kernel_rfl) HJ.out ?_ (fun w' hw' => ?_) ?_; rotate_left; (· go_simp); (· skip; go_simp; rfl); (go_simp))
              (refine j_take 24 _ ?_ hs rfl rfl (by kernel_rfl) (by kernel_rfl) HJ.out (fun w' hw' => ?_) ?_; rotate_left; (· skip; go_simp; rfl); (go_simp))
              refine j_done (by kernel_rfl) ?_
              go_wp2_with fail
              go_meet
              exact ⟨rfl, HJ.out⟩
            · obtain ⟨K, rfl⟩ : ∃ K, N = K + 1 := ⟨N - 1, by omega⟩
              rcases E8.out with e | ⟨g8, rfl, out⟩
              · omega
              obtain ⟨b4, o4, sN, rfl, hb4, hx4, A4, L4⟩ := T4.out.at (k := K) (by omega)
              have oa := out.at (j := K) (s := sN) (by rw [LAST.out K LN.out]; exact hx4)
              have ol := out.lt
              have hKw : IntKind.i64.wrap (K : Int) = (K : Int) := by rw [IntKind.wrap_i64]; omega
              have hKk : ((K : Int) < (K : Int) + 1) = True := eq_true (by omega)
              have my := MAY.out sN (List.mem_of_getElem? (by rw [LAST.out K LN.out]; exact hx4))
              have J8 : Hid (JL g8 (K * 5) b4 (o4 + K * 5) sN w8) := Lib.hid ⟨oa, A4, ol, hb4⟩
              unfold mayF at my
              simp only [Bool.and_eq_true, decide_eq_true_eq] at my
              obtain ⟨⟨⟨⟨⟨⟨f1, f2⟩, f3⟩, f4⟩, f5⟩, _⟩, _⟩ := my
              have q1 : (FloatKind.f64.format.order sN.x sN.x == some Ordering.eq) = true := by rw [fmt64, beq_iff_eq, o_self]; exact f1.not_nan
              have q2 : (FloatKind.f64.format.order sN.v sN.v == some Ordering.eq) = true := by rw [fmt64, beq_iff_eq, o_self]; exact f2.not_nan
              have q3 : (FloatKind.f64.format.order sN.pxx sN.pxx == some Ordering.eq) = true := by rw [fmt64, beq_iff_eq, o_self]; exact f3.not_nan
              have q4 : (FloatKind.f64.format.order sN.pxv sN.pxv == some Ordering.eq) = true := by rw [fmt64, beq_iff_eq, o_self]; exact f4.not_nan
              have q5 : (FloatKind.f64.format.order sN.pvv sN.pvv == some Ordering.eq) = true := by rw [fmt64, beq_iff_eq, o_self]; exact f5.not_nan
              have fq := fun x y (w : World) => run_equalIn_float (P := Try.prog) 9998 x y w Try.und24
              simp only [Nat.reduceAdd] at fq
              clear oa A4 out hx4 ol f1 f2 f3 f4 f5 E8 LAST MAY LTT BL
              refine wp_region_J1 25 (JL g8 (K * 5) b4 (o4 + K * 5) sN) (by kernel_rfl) rfl (by kernel_rfl) ⟨⟨J8.out.sa.c0, J8.out.sa.c1, J8.out.sa.c2, J8.out.sa.c3, J8.out.sa.c4⟩, ⟨J8.out.sb.c0, J8.out.sb.c1, J8.out.sb.c2, J8.out.sb.c3, J8.out.sb.c4⟩, J8.out.la, J8.out.lb⟩ (fun wj hbj hJ hs => ?_)
              have HJ := Lib.hid hJ
              have BJ := Lib.hid hbj
              clear hbj hJ J8
              (refine j_take 0 _ ?_ hs rfl rfl (by kernel_rfl) (by kernel_rfl) HJ.out (fun w' hw' => ?_) ?_; rotate_left; (· skip; go_simp; rfl); (go_simp))
              (refine j_take 1 _ ?_ hs rfl rfl (by kernel_rfl) (by kernel_rfl) HJ.out (fun w' hw' => ?_) ?_; rotate_left; (· skip; go_simp; rfl); (go_simp))
              (refine j_take 2 _ ?_ hs rfl rfl (by kernel_rfl) (by kernel_rfl) HJ.out (fun w' hw' => ?_) ?_; rotate_left; (· skip; go_simp; rfl); (go_simp))
              (refine j_take 3 _ ?_ hs rfl rfl (by kernel_rfl) (by kernel_rfl) HJ.out (fun w' hw' => ?_) ?_; rotate_left; (· skip; go_simp; rfl); (go_simp))
              (refine j_take 4 _ ?_ hs rfl rfl (by kernel_rfl) (by kernel_rfl) HJ.out (fun w' hw' => ?_) ?_; rotate_left; (· skip; go_simp; rfl); (go_simp))
              (refine j_take 5 _ ?_ hs rfl rfl (by kernel_rfl) (by kernel_rfl) HJ.out (fun w' hw' => ?_) ?_; rotate_left; (· skip; go_simp; rfl); (go_simp))
              (refine j_take2 6 _ ?_ hs rfl (by kernel_rfl) (by kernel_rfl) HJ.out ?_ (fun w' hw' => ?_) ?_; rotate_left; (· go_simp); (· skip; go_simp; rfl); (go_simp))
              (refine j_take2 7 _ ?_ hs rfl (by kernel_rfl) (by kernel_rfl) HJ.out ?_ (fun w' hw' => ?_) ?_; rotate_left; (· go_simp); (· skip; go_simp; rfl); (go_simp))
              (refine j_take2 8 _ ?_ hs rfl (by kernel_rfl) (by kernel_rfl) HJ.out ?_ (fun w' hw' => ?_) ?_; rotate_left; (· go_simp); (· skip; go_simp; rfl); (go_simp))
              (refine j_take2 9 _ ?_ hs rfl (by kernel_rfl) (by kernel_rfl) HJ.out ?_ (fun w' hw' => ?_) ?_; rotate_left; (· go_simp); (· skip; go_simp; rfl); (go_simp))
              (refine j_take2 10 _ ?_ hs rfl (by kernel_rfl) (by kernel_rfl) HJ.out ?_ (fun w' hw' => ?_) ?_; rotate_left; (· go_simp); (· skip; go_simp; rfl); (go_simp))
              (refine j_take2 11 _ ?_ hs rfl (by kernel_rfl) (by kernel_rfl) HJ.out ?_ (fun w' hw' => ?_) ?_; rotate_left; (· go_simp); (· skip; go_simp; rfl); (go_simp))
              (refine j_take2 12 _ ?_ hs rfl (by kernel_rfl) (by kernel_rfl) HJ.out ?_ (fun w' hw' => ?_) ?_; rotate_left; (· go_simp); (· skip; go_simp; rfl); (go_simp))
              (refine j_take2 13 _ ?_ hs rfl (by kernel_rfl) (by kernel_rfl) HJ.out ?_ (fun w' hw' => ?_) ?_; rotate_left; (· go_simp); (· skip; go_simp; rfl); (go_simp))
              (refine j_take2 14 _ ?_ hs rfl (by kernel_rfl) (by kernel_rfl) HJ.out ?_ (fun w' hw' => ?_) ?_; rotate_left; (· go_simp); (· skip; go_simp; rfl); (go_simp))
              (refine j_take2 15 _ ?_ hs rfl (by kernel_rfl) (by kernel_rfl) HJ.out ?_ (fun w' hw' => ?_) ?_; rotate_left; (· go_simp); (· obtain ⟨⟨a0, a1, a2, a3, a4⟩, ⟨b0, b1, b2, b3, b4⟩, la, lb⟩ := hw'; go_simp; rfl); (go_simp))
              (refine j_take2 16 _ ?_ hs rfl (by kernel_rfl) (by kernel_rfl) HJ.out ?_ (fun w' hw' => ?_) ?_; rotate_left; (· go_simp); (· skip; go_simp; rfl); (go_simp))
              (refine j_take2 17 _ ?_ hs rfl (by kernel_rfl) (by kernel_rfl) HJ.out ?_ (fun w' hw' => ?_) ?_; rotate_left; (· go_simp); (· skip; go_simp; rfl); (go_simp))
              (refine j_take2 18 _ ?_ hs rfl (by kernel_rfl) (by kernel_rfl) HJ.out ?_ (fun w' hw' => ?_) ?_; rotate_left; (· go_simp); (· skip; go_simp; rfl); (go_simp))
              (refine j_take2 19 _ ?_ hs rfl (by kernel_rfl) (by kernel_rfl) HJ.out ?_ (fun w' hw' => ?_) ?_; rotate_left; (· go_simp); (· skip; go_simp; rfl); (go_simp))
              (refine j_take2 20 _ ?_ hs rfl (by kernel_rfl) (by kernel_rfl) HJ.out ?_ (fun w' hw' => ?_) ?_; rotate_left; (· go_simp); (· skip; go_simp; rfl); (go_simp))
              (refine j_take2 21 _ ?_ hs rfl (by kernel_rfl) (by kernel_rfl) HJ.out ?_ (fun w' hw' => ?_) ?_; rotate_left; (· go_simp); (· obtain ⟨⟨a0, a1, a2, a3, a4⟩, ⟨b0, b1, b2, b3, b4⟩, la, lb⟩ := hw'; go_simp; rfl); (go_simp))
              (refine j_take2 22 _ ?_ hs rfl (by kernel_rfl) (by kernel_rfl) HJ.out ?_ (fun w' hw' => ?_) ?_; rotate_left; (· go_simp); (· skip; go_simp; rfl); (go_simp))
              (refine j_take2 23 _ ?_ hs rfl (by kernel_rfl) (by kernel_rfl) HJ.out ?_ (fun w' hw' => ?_) ?_; rotate_left; (· go_simp); (· skip; go_simp; rfl); (go_simp))
              (refine j_take 24 _ ?_ hs rfl rfl (by kernel_rfl) (by kernel_rfl) HJ.out (fun w' hw' => ?_) ?_; rotate_left; (· skip; go_simp; rfl); (go_simp))
              refine j_done (by kernel_rfl) ?_
              go_wp2_with fail
              go_meet
              exact ⟨rfl, BJ.out⟩
          case rest =>
            obtain ⟨rfl, b9⟩ := hcut
            have B9 := Lib.hid (B8.out.trans (b9.mono B8.out.size))
            have EO : Hid (N = 0 ∨ ∃ g, p8 = some ⟨g, 0, none⟩ ∧ g < wc.heap.size ∧ OutS wc g R) := Lib.hid (E8.out.imp id fun ⟨g, h1, h2⟩ => ⟨g, h1, Nat.lt_of_lt_of_le h2.lt b9.size, h2.block (b9.block g h2.lt)⟩)
            obtain ⟨w9, e9⟩ : ∃ w9, w9 = wc := ⟨_, rfl⟩
            subst e9
            clear b9 E8 LAST B8 T4
            go_wp2_with fail
            go_loopw [169] (fun i wr => ∃ k : Nat, i = .int .i64 k ∧ k ≤ N ∧ Below w9.heap.size w9 wr) (fun i _ => N - (intOf i).toNat)
            case atStart => exact ⟨0, rfl, by omega, Below.refl _ _⟩
            case round =>
              obtain ⟨k, rfl, hk, bb⟩ := hrel
              have BB := Lib.hid bb
              clear bb
              by_cases hkN : k < N
              · have kR : k < R.length := by rw [BL.out]; exact hkN
                obtain ⟨s, hs⟩ : ∃ s, R[k]? = some s := ⟨_, List.getElem?_eq_getElem kR⟩
                rcases EO.out with e | ⟨g8, rfl, lg, out⟩
                · omega
                have A := (out.at hs).keep lg BB.out
                have lg2 := Nat.lt_of_lt_of_le lg BB.out.size
                have m1 := MAY.out s (List.mem_of_getElem? hs)
                have l1 := LTT.out s (List.mem_of_getElem? hs)
                have M1 := Lib.hid m1
                have L1 := Lib.hid l1
                have c0 := A.c0
                have c1 := A.c1
                have c2 := A.c2
                have c3 := A.c3
                have c4 := A.c4
                have kN : (k : Int) < (N : Int) := by omega
                clear A out hs m1 l1 lg kR
                go_wp2_with fail
                refine (may_walk s.x s.v s.pxx s.pxv s.pvv _ L1.out).mono ?_
                rintro e wm ⟨rfl, bm⟩
                have M2 : mayF ⟨s.x, s.v, s.pxx, s.pxv, s.pvv⟩ = true := M1.out
                rw [M2]
                have BM := Lib.hid (BB.out.trans (bm.mono BB.out.size))
                clear bm M2
                go_wp2_with fail
                go_roundw
                case rel => exact ⟨k + 1, by go_num, by omega, BM.out⟩
                case measure => simp only [intOf]; omega
              · go_wp2_with fail
                go_ret
                exact ⟨rfl, B9.out.trans (BB.out.mono B9.out.size)⟩
        · have hR : backR L S q = [] := by unfold backR; rw [if_neg hE]
          rw [hR] at rs
          generalize backE L S q = EB at hE ⊢
          have hEb : (EB == 0) = false := by rw [beq_eq_false_iff_ne]; exact hE
          rcases rs with ⟨rfl, _⟩ | ⟨g9, co9, rfl, _⟩
          · go_wp2_with fail
            go_ret
            exact ⟨rfl, B8.out⟩
          · go_wp2_with fail
            go_ret
            exact ⟨rfl, B8.out⟩
end Go.Proofs.Ytoobpiednigcgaa
