import Derived.Test.YtgdkmakmdomdbaaPnFe
import Derived.Test.YtgdkmakmdomdbaaPnWa
import Derived.Test.YtgdkmakmdomdbaaFlQ
import Derived.Deep.QuietTactic
import Derived.BigQuiet
set_option autoImplicit false
set_option linter.unusedVariables false
namespace Go.Proofs.Ytgdkmakmdomdbaa
open Go.RowKit Lk Pn
/-- a slice of small numbers -/
structure S16 (w : World) (a : Option Addr) (n cap : Nat) (M : List Int) : Prop where
  len : M.length = n
  le : n ≤ cap
  small : cap ≤ 9223372036854775807
  cells : n = 0 ∨ ∃ b off, a = some ⟨b, off, none⟩ ∧ b < w.heap.size ∧ ∀ (j : Nat) x, M[j]? = some x → w.cell? ⟨b, off + j, none⟩ = some (.int .i16 x)
  bd : ∀ x ∈ M, -32768 ≤ x ∧ x ≤ 32767
theorem S16.at {w : World} {a : Option Addr} {n cap : Nat} {M : List Int} (h : S16 w a n cap M) {k : Nat} (hk : k < n) : ∃ b off x, a = some ⟨b, off, none⟩ ∧ b < w.heap.size ∧ w.cell? ⟨b, off + k, none⟩ = some (.int .i16 x) ∧ -32768 ≤ x ∧ x ≤ 32767 := by
  rcases h.cells with h0 | ⟨b, off, ha, hb, hc⟩
  · omega
  · have hl : k < M.length := by rw [h.len]; exact hk
    obtain ⟨h1, h2⟩ := h.bd M[k] (List.getElem_mem hl)
    exact ⟨b, off, M[k], ha, hb, hc k _ (List.getElem?_eq_getElem hl), h1, h2⟩
theorem tks_new (L : List Tk) : tks (newP L).l = L := by unfold tks newP; simp [Function.comp_def]
structure IR (p : Nat) (w wr : World) (S : Nat → Prop) (st : Pl) (k : Nat) : Prop where
  b : Below w.heap.size w wr
  ps : PS w.heap.size wr S p st
  inv : Inv 1 st
  edf : Edf st
  ne : st.l ≠ []
  len : st.l.length ≤ 12
  now : st.now ≤ k * 2199023255552
theorem IR.keep {p : Nat} {w wr w2 : World} {S : Nat → Prop} {st : Pl} {k : Nat} (h : IR p w wr S st k) (b : Below wr.heap.size wr w2) : IR p w w2 S st k :=
  ⟨h.b.trans (b.mono h.b.size), h.ps.below b, h.inv, h.edf, h.ne, h.len, h.now⟩
/-- behind Next -/
theorem IR.next {p : Nat} {w wr w2 : World} {S S' : Nat → Prop} {st : Pl} {k : Nat} (h : IR p w wr S st k) (hk : k < 60) (h2 : PS w.heap.size w2 S' p (nextP st).1) (f : Fr S wr w2) : IR p w w2 S' (nextP st).1 (k + 1) ∧ (nextP st).2.2 = 0 ∧ (nextP st).2.1.late = false := by
  have hn := h.now
  obtain ⟨a, b, c, d, e⟩ := edf_next (Nat.le_refl _) h.inv h.edf h.ne (by omega)
  exact ⟨⟨h.b.trans (h.ps.frb f h.b.size), h2, inv_next (Nat.le_refl _) h.inv, a, e, by rw [len_next]; exact h.len, by omega⟩, b, c⟩
theorem IR.till {p : Nat} {w wr w2 : World} {S S' : Nat → Prop} {st : Pl} {k : Nat} {T : Int} (h : IR p w wr S st k) (hT : T ≤ st.now + 49) (h2 : PS w.heap.size w2 S' p (untilP st T).1) (f : Fr S wr w2) : IR p w w2 S' (untilP st T).1 (k + 1) ∧ ∀ s ∈ (untilP st T).2, s.late = false := by
  have hn := h.now
  obtain ⟨a, b⟩ := edf_until (T := T) (Nat.le_refl 1) h.inv h.edf
  have c := now_until (T := T) (Nat.le_refl 1) h.inv
  have l := len_until st T
  refine ⟨⟨h.b.trans (h.ps.frb f h.b.size), h2, inv_until (Nat.le_refl _) h.inv, a, fun e => ?_, by rw [l]; exact h.len, by omega⟩, b⟩
  rw [e] at l
  exact h.ne (List.eq_nil_of_length_eq_zero l.symm)
theorem slv_late {l : List Sl} {j : Nat} {s : Sl} (h : l[j]? = some s) : (slv l)[j * 4 + 3]? = some (.bool s.late) := by
  induction l generalizing j with
  | nil => simp at h
  | cons a l ih =>
    have e : slv (a :: l) = (slc a).toList ++ slv l := by simp [slv]
    rw [e]
    cases j with
    | zero =>
      simp only [List.getElem?_cons_zero, Option.some.injEq] at h
      subst h
      rw [List.getElem?_append_left (by simp [slc])]; rfl
    | succ j =>
      rw [List.getElem?_cons_succ] at h
      rw [List.getElem?_append_right (by simp [slc]; omega), show (j + 1) * 4 + 3 - (slc a).toList.length = j * 4 + 3 by simp [slc]; omega]
      exact ih h
/-- none of a list's stretches is late, and it says so in its cells -/
theorem own_late {w : World} {B n : Nat} {v : Value} {l : List Sl} (h : w.ownsRow B 42 4 v n (slv l)) (hl : ∀ s ∈ l, s.late = false) : ∃ a cap, v = .slice a n cap ∧ cap ≤ 9223372036854775807 ∧ n ≤ cap ∧ ∀ j, j < n → ∃ g, a = some ⟨g, 0, none⟩ ∧ g < w.heap.size ∧ w.cell? ⟨g, j * 4 + 3, none⟩ = some (.bool false) := by
  have hn := h.1
  rw [slv_len] at hn
  rcases h.2 with ⟨rfl, h0⟩ | ⟨g, cap, cur, rfl, hB, hb, h1, h2, _, h3⟩
  · subst h0; exact ⟨none, 0, rfl, by omega, Nat.le_refl _, fun j hj => by omega⟩
  · refine ⟨_, cap, rfl, by unfold maxLen at h2; omega, h1, fun j hj => ⟨g, rfl, (Array.getElem?_eq_some_iff.1 hb).1, ?_⟩⟩
    have hjl : j < l.length := by omega
    have e := slv_late (List.getElem?_eq_getElem hjl)
    rw [hl _ (List.getElem_mem hjl), ← h3, List.getElem?_take, if_pos (by omega)] at e
    rw [blk_cell hb, ← e]; simp
structure SJt (b o : Nat) (x : Int) (w : World) : Prop where
  c0 : w.cell? ⟨b, o, none⟩ = some (.int .i16 x)
  lt : b < w.heap.size
set_option maxRecDepth 100000 in
set_option maxHeartbeats 4000000 in
theorem time_law (a : Option Addr) (n cap : Nat) (L : List Tk) (a2 : Option Addr) (n2 cap2 : Nat) (M : List Int) (w : World) (ts : Ts w a n cap L) (ms : S16 w a2 n2 cap2 M) :
    Calls Try.prog 5 #[.slice a n cap, .slice a2 n2 cap2] w (fun e w' => e = .returned (.bool true) ∧ Below w.heap.size w w') := by
  have MS := Lib.hid ms
  have m63 : n2 ≤ 9223372036854775807 := Nat.le_trans ms.le ms.small
  have mc := ms.le
  have mc2 := ms.small
  have FW := few_walk 40 (by omega) (by omega) a n cap L w ts
  obtain ⟨N, hN⟩ : ∃ N, N = min n 12 := ⟨_, rfl⟩
  rw [← hN] at FW
  obtain ⟨F, hF⟩ : ∃ F, F = fewK 40 L N := ⟨_, rfl⟩
  rw [← hF] at FW
  have flen : F.length = N := by rw [hF]; exact fewK_len (by rw [ts.len]; omega)
  have fm : ∀ t ∈ F, mayT t = true := fun t ht => (fewK_may (k := N) (L := L) (m := 40) (by omega) (by omega) t (hF ▸ ht)).1
  have hE : newE F = 0 := by
    unfold newE
    rw [if_neg (by omega), if_pos (List.all_eq_true.2 fm)]
  have N12 : N ≤ 12 := by omega
  have FM := Lib.hid fm
  have HE := Lib.hid hE
  have FL := Lib.hid flen
  clear ts ms hN hF flen fm hE
  go_enter Try.func5, Try.ntmps5
  go_wp2_with fail
  refine FW.mono ?_
  rintro e w1 ⟨v, rfl, ow, b1⟩
  obtain ⟨a1, c1, rfl, ts1⟩ := ts_own ow
  have B1 := Lib.hid b1
  have T1 := Lib.hid ts1
  have q1 := ts1.le
  have q2 := ts1.small
  clear FW ow b1 ts1
  go_wp2_with fail
  refine (c_new w.heap.size a1 N c1 F _ T1.out B1.out.size HE.out).mono ?_
  rintro e w2 ⟨p, S2, rfl, h2, _, b2⟩
  have B2 := Lib.hid (B1.out.trans (b2.mono B1.out.size))
  have P2 := Lib.hid h2
  have I2 := Lib.hid (inv_new HE.out)
  clear b2 h2 T1 B1
  go_wp2_with fail
  refine (c_load w.heap.size 1 (by omega) p S2 _ w2 P2.out I2.out).mono ?_
  rintro e w3 ⟨rfl, b3⟩
  rw [tks_new]
  have B3 := Lib.hid (B2.out.trans (b3.mono B2.out.size))
  have P3 := Lib.hid (P2.out.below b3)
  clear b3 P2 B2
  have LD := Lib.hid (fun h1 h2 => ld_of_load (L := F) FM.out h1 h2)
  generalize loadF F = ld at LD ⊢
  obtain ⟨nm, dn⟩ := ld
  simp only at LD ⊢
  have WK : ∀ (w9 : World), Below w.heap.size w w9 → Calls Try.prog 9 #[] w9 (fun e w' => e = .returned (.bool true) ∧ Below w.heap.size w w') := fun w9 h9 => (wakes_walk w9).mono fun e w' h => ⟨h.1, h9.trans (h.2.mono h9.size)⟩
  by_cases g0 : N = 0
  · subst g0
    go_wp2_with fail
    refine (WK _ B3.out).mono ?_
    rintro e w4 ⟨rfl, b4⟩
    have B4 := Lib.hid b4
    clear b4
    go_wp2_with fail
    go_ret
    exact ⟨rfl, B4.out⟩
  have g0i : ((N : Int) == 0) = false := by rw [beq_eq_false_iff_ne]; omega
  by_cases g1 : dn < 1
  · have g1i : (dn : Int) < 1 := by omega
    go_wp2_with fail
    refine (WK _ B3.out).mono ?_
    rintro e w4 ⟨rfl, b4⟩
    have B4 := Lib.hid b4
    clear b4
    go_wp2_with fail
    go_ret
    exact ⟨rfl, B4.out⟩
  have g1i : ¬ (dn : Int) < 1 := by omega
  by_cases g2 : dn < nm
  · have g2i : (dn : Int) < (nm : Int) := by omega
    go_wp2_with fail
    refine (WK _ B3.out).mono ?_
    rintro e w4 ⟨rfl, b4⟩
    have B4 := Lib.hid b4
    clear b4
    go_wp2_with fail
    go_ret
    exact ⟨rfl, B4.out⟩
  have g2i : ¬ (dn : Int) < (nm : Int) := by omega
  have h0 : IR p w w3 S2 (newP F) 0 := ⟨B3.out, P3.out, I2.out, edf_new HE.out (LD.out (by omega) (by omega)), fun e => by
      have := congrArg List.length e
      unfold newP at this
      rw [List.length_map, FL.out] at this; simp at this; omega, by unfold newP; rw [List.length_map, FL.out]; exact N12, by unfold newP; simp⟩
  have H0 := Lib.hid h0
  clear h0 P3 B3 I2 LD
  go_wp2_with fail
  go_loopw [10] (fun i wr => ∃ (k : Nat) (S : Nat → Prop) (st : Pl), i = .int .i64 k ∧ k ≤ n2 ∧ k ≤ 60 ∧ IR p w wr S st k) (fun i _ => n2 - (intOf i).toNat)
  case atStart => exact ⟨0, _, _, rfl, by omega, by omega, H0.out⟩
  case round =>
    obtain ⟨k, S, st, rfl, hk, h60, R⟩ := hrel
    have HR := Lib.hid R
    clear R H0
    by_cases hlt : k < n2
    · by_cases hl2 : k < 60
      · have hk3 : (k : Int) < 60 := by omega
        obtain ⟨b, off, x, rfl, hb1, c0, x1, x2⟩ := MS.out.at hlt
        have cc : wr.cell? ⟨b, off + k, none⟩ = some (.int .i16 x) := (HR.out.b.cell (p := ⟨b, off + k, none⟩) hb1).trans c0
        have bl : b < wr.heap.size := Nat.lt_of_lt_of_le hb1 HR.out.b.size
        have BL := Lib.hid hb1
        clear c0 hb1
        by_cases he : x.tmod 2 = 0
        · go_wp2_with fail
          refine (c_next w.heap.size 1 (by omega) (Nat.le_refl _) p S st wr HR.out.ps HR.out.b.size HR.out.inv (by have := HR.out.len; omega)).mono ?_
          rintro e w4 ⟨S4, rfl, h4, _, f4⟩
          obtain ⟨r4, e4, l4⟩ := HR.out.next hl2 h4 f4
          have R4 := Lib.hid r4
          rw [e4]
          generalize (nextP st).2.1 = s4 at l4 ⊢
          obtain ⟨t4, fr4, to4, lt4⟩ := s4
          simp only at l4
          subst l4
          simp only [slc]
          clear r4 e4 h4 f4 cc
          go_wp2_with fail
          have R5 := Lib.hid (R4.out.keep ((Below.refl _ w4).alloc (Nat.le_refl _) (.cells #[.int .i64 t4, .int .i64 fr4, .int .i64 to4, .bool false] 42)))
          go_roundw
          case rel => exact ⟨k + 1, _, _, rfl, by omega, by omega, R5.out⟩
          case measure => simp only [intOf]; omega
        · have n0 := HR.out.inv.n0
          have n1 := HR.out.now
          obtain ⟨r, hr⟩ : ∃ r, r = x.tmod 50 := ⟨_, rfl⟩
          have rb := tm_bd x 50 (by omega)
          rw [← hr] at rb
          obtain ⟨nw, hnw⟩ : ∃ nw, nw = st.now := ⟨_, rfl⟩
          have hen : nw ≤ 131941395333120 := by omega
          have n00 : 0 ≤ nw := by omega
          go_wp2_with fail
          refine wp_region_J1 12 (SJt b (off + k) x) (by kernel_rfl) rfl (by kernel_rfl) ⟨cc, bl⟩ (fun w4 hb4 hJ hs => ?_)
          have HJ := Lib.hid hJ
          have R4 := Lib.hid (HR.out.keep hb4)
          have NW := Lib.hid hnw
          clear hb4 hJ cc bl n0 n1 hnw
          (refine j_take 0 _ ?_ hs rfl rfl (by kernel_rfl) (by kernel_rfl) HJ.out (fun w' hw' => ?_) ?_; rotate_left; (· skip; go_simp; rfl); (go_simp))
          (refine j_take 1 _ ?_ hs rfl rfl (by kernel_rfl) (by kernel_rfl) HJ.out (fun w' hw' => ?_) ?_; rotate_left; (· skip; go_simp; rfl); (go_simp))
          (refine j_take 3 _ ?_ hs rfl rfl (by kernel_rfl) (by kernel_rfl) HJ.out (fun w' hw' => ?_) ?_; rotate_left; (· skip; go_simp; rfl); (go_simp))
          (refine j_take 4 _ ?_ hs rfl rfl (by kernel_rfl) (by kernel_rfl) HJ.out (fun w' hw' => ?_) ?_; rotate_left; (· skip; go_simp; rfl); (go_simp))
          (refine j_take 5 _ ?_ hs rfl rfl (by kernel_rfl) (by kernel_rfl) HJ.out (fun w' hw' => ?_) ?_; rotate_left; (· skip; go_simp; rfl); (go_simp))
          (refine j_take 6 _ ?_ hs rfl rfl (by kernel_rfl) (by kernel_rfl) HJ.out (fun w' hw' => ?_) ?_; rotate_left; (· have c0 := hw'.c0; go_simp; rfl); (go_simp))
          (refine j_take 7 _ ?_ hs rfl rfl (by kernel_rfl) (by kernel_rfl) HJ.out (fun w' hw' => ?_) ?_; rotate_left; (· skip; go_simp; rfl); (go_simp))
          (refine j_take 8 _ ?_ hs rfl rfl (by kernel_rfl) (by kernel_rfl) HJ.out (fun w' hw' => ?_) ?_; rotate_left; (· skip; go_simp; rfl); (go_simp))
          refine j_one 2 _ rfl (by kernel_rfl) HJ.out ?_
          go_wp2_with fail
          refine (c_now w.heap.size p S st _ R4.out.ps).mono ?_
          rintro e w5 ⟨rfl, rfl⟩
          rw [← NW.out]
          go_wp2_with fail
          refine ⟨HJ.out, ?_⟩
          (refine j_take 9 _ ?_ hs rfl rfl (by kernel_rfl) (by kernel_rfl) HJ.out (fun w' hw' => ?_) ?_; rotate_left; (· skip; go_simp; rfl); (go_simp))
          refine j_one 10 _ rfl (by kernel_rfl) HJ.out ?_
          go_wp2_with fail
          rw [hr] at rb
          refine (c_until w.heap.size 1 (by omega) (Nat.le_refl _) p S st _ w4 R4.out.ps R4.out.b.size R4.out.inv).mono ?_
          rintro e w6 ⟨v, S6, rfl, ow, h6, _, _, f6⟩
          obtain ⟨r6, l6⟩ := R4.out.till (by have := NW.out; omega) h6 f6
          obtain ⟨a6, c6, rfl, q6, q7, ce⟩ := own_late ow l6
          have R6 := Lib.hid r6
          have CE := Lib.hid ce
          have HJ6 := Lib.hid (show SJt b (off + k) x w6 from ⟨((R4.out.ps.frb f6 R4.out.b.size).cell (p := ⟨b, off + k, none⟩) BL.out).trans (HJ.out.c0), Nat.lt_of_lt_of_le BL.out r6.b.size⟩)
          clear ow h6 f6 r6 l6 ce R4
          go_wp2_with fail
          refine ⟨HJ6.out, ?_⟩
          refine j_one 11 _ rfl (by kernel_rfl) HJ6.out ?_
          go_wp2_with fail
          refine ⟨HJ6.out, j_done (by kernel_rfl) ?_⟩
          go_wp2_with fail
          generalize (untilP st (nw + x.tmod 50)).2.length = mm at q7 CE ⊢
          generalize (untilP st (nw + x.tmod 50)).1 = st6 at R6
          clear HJ HJ6 NW n00 rb hr hen
          go_loopw [14] (fun i wr2 => ∃ j : Nat, i = .int .i64 j ∧ j ≤ mm ∧ Below w6.heap.size w6 wr2) (fun i _ => mm - (intOf i).toNat)
          case atStart => exact ⟨0, rfl, by omega, Below.refl _ _⟩
          case round =>
            obtain ⟨j, rfl, hj, bj⟩ := hrel
            have BJ := Lib.hid bj
            clear bj
            by_cases hjm : j < mm
            · obtain ⟨g, rfl, g1, g2⟩ := CE.out j hjm
              have cj := (BJ.out.cell (p := ⟨g, j * 4 + 3, none⟩) g1).trans g2
              have gl := Nat.lt_of_lt_of_le g1 BJ.out.size
              clear g1 g2
              go_wp2_with fail
              go_roundw
              case rel => exact ⟨j + 1, rfl, by omega, BJ.out⟩
              case measure => simp only [intOf]; omega
            · go_wp2_with fail
              go_roundw
              case rel => exact ⟨k + 1, _, _, rfl, by omega, by omega, R6.out.keep BJ.out⟩
              case measure => simp only [intOf]; omega
      · have hk3 : ¬ (k : Int) < 60 := by omega
        go_wp2_with fail
        refine (WK _ HR.out.b).mono ?_
        rintro e w4 ⟨rfl, b4⟩
        have B4 := Lib.hid b4
        clear b4
        go_wp2_with fail
        go_ret
        exact ⟨rfl, B4.out⟩
    · go_wp2_with fail
      refine (WK _ HR.out.b).mono ?_
      rintro e w4 ⟨rfl, b4⟩
      have B4 := Lib.hid b4
      clear b4
      go_wp2_with fail
      go_ret
      exact ⟨rfl, B4.out⟩
end Go.Proofs.Ytgdkmakmdomdbaa
