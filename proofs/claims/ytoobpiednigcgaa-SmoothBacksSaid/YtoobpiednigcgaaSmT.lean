import Derived.Test.YtoobpiednigcgaaSmRL
import Derived.Deep.Onto
set_option autoImplicit false
set_option linter.unusedVariables false
namespace Go.Proofs.Ytoobpiednigcgaa
open Go.RowKit Lk
theorem abs_is (x X : Nat) (w : World) (hl : x < 2 ^ 64) (h : Is x X) : Calls Try.prog 47 #[.float .f64 x] w (fun e w' => ∃ v, e = .returned (.float .f64 v) ∧ Is v (fabs X) ∧ w = w') :=
  (abs_walk x w hl).mono fun e w' ⟨he, hw⟩ => ⟨_, he, is_fabs h, hw⟩
theorem fin_mem {l : List Nat} {k x : Nat} (h : finL l = true) (hx : l[k]? = some x) : Lk.Fin x := by
  unfold finL at h; rw [List.all_eq_true] at h
  obtain ⟨h1, h2⟩ := List.getElem?_eq_some_iff.1 hx
  have := h _ (h2 ▸ List.getElem_mem h1)
  simpa using this
def nns (l : List Nat) : List Value := l.map fun (i : Nat) => Value.int .i64 (i : Int)
theorem nns_snoc (l : List Nat) (x : Nat) : nns (l ++ [x]) = nns l ++ [.int .i64 (x : Int)] := by simp [nns]
/-- what Turns hands back: its list, in memory of its own, and a number -/
def TurnsP (t x : List Nat) (m : Nat) (w : World) (e : Ending) (w' : World) : Prop :=
  ∃ v, e = .returned (.tuple #[v, .int .i64 (turnsE t x m)]) ∧ w'.ownsRow w.heap.size 3 1 v (turnsR t x m).length (nns (turnsR t x m)) ∧ Below w.heap.size w w'
theorem turnsP_err {t x : List Nat} {m : Nat} {w w' : World} {k : Int} (h : turnsE t x m = k) (h0 : k ≠ 0) (hb : Below w.heap.size w w') : TurnsP t x m w (.returned (.tuple #[.slice none 0 0, .int .i64 k])) w' := by
  have : turnsR t x m = [] := by unfold turnsR; rw [h, if_neg h0]
  refine ⟨_, by rw [h], ?_, hb⟩
  rw [this]; exact World.ownsRow_nil _ _ _ _
theorem getD_of {l : List Nat} {k x : Nat} (h : l[k]? = some x) : l.getD k 0 = x := by rw [List.getD_eq_getElem?_getD, h]; rfl
theorem slope_at {w wr : World} {a a' : Option Addr} {n c c' : Nat} {t x : List Nat} {k : Nat} (h : LP w a a' n n c c' t x wr) (hk : k + 1 < n) :
    Calls Try.prog 46 #[.int .i64 k, .pointer (some ⟨w.heap.size + 1, 0, none⟩), .pointer (some ⟨w.heap.size, 0, none⟩)] wr (fun e w' => ∃ v, e = .returned (.float .f64 v) ∧ Is v (slope t x k) ∧ Below wr.heap.size wr w') := by
  have l1 := h.s.len
  have l2 := h.s'.len
  have a0 : t[k]? = some t[k] := List.getElem?_eq_getElem (by omega)
  have a1 : t[k + 1]? = some t[k + 1] := List.getElem?_eq_getElem (by omega)
  have b0 : x[k]? = some x[k] := List.getElem?_eq_getElem (by omega)
  have b1 : x[k + 1]? = some x[k + 1] := List.getElem?_eq_getElem (by omega)
  have := slope_walk k _ _ n c c' _ _ _ _ a a' t x wr h.b1 h.s a0 a1 h.b2 h.s' b0 b1
  unfold slope
  rw [getD_of a0, getD_of a1, getD_of b0, getD_of b1]
  exact this
set_option maxHeartbeats 4000000 in
theorem turns_walk (a a' : Option Addr) (N M c c' : Nat) (t x : List Nat) (m : Nat) (w : World) (s : Fs w a N c t) (s' : Fs w a' M c' x) :
    Calls Try.prog 18 #[.slice a N c, .slice a' M c', .float .f64 m] w (TurnsP t x m w) := by
  obtain ⟨I, hi, hz, hsz, hby⟩ := info_parts int_info
  have n63 : N ≤ 9223372036854775807 := Nat.le_trans s.le s.small
  have m63 : M ≤ 9223372036854775807 := Nat.le_trans s'.le s'.small
  have P0 := Lib.hid (LP.start s s')
  have lt := s.len
  have lx := s'.len
  have LT := Lib.hid lt
  have LX := Lib.hid lx
  have hmf := hmf
  obtain ⟨se, hse⟩ : ∃ se : Int, (if N ≠ M then 5 else if 1024 < N then 3 else 0) = se := ⟨_, rfl⟩
  have R0 : turnsE t x m = if se ≠ 0 then se else if !(finL t && finL x) then 6 else if Nan m then 6 else if !upF t then 2 else 0 := by
    unfold turnsE
    rw [← hse, lt, lx]
    by_cases h1 : N = M <;> by_cases h2 : 1024 < N <;> simp [h1] <;> simp_all
  have hnm : se = 0 → N = M ∧ N ≤ 1024 := by
    intro h0
    by_cases h1 : N = M
    · by_cases h2 : 1024 < N
      · rw [if_neg (by omega), if_pos h2] at hse; omega
      · exact ⟨h1, by omega⟩
    · rw [if_pos h1] at hse; omega
  have SD := Lib.hid (sides_walk N M c c' a a')
  rw [hse] at SD
  clear hse lt lx s s'
  by_cases h1 : se = 0
  · obtain ⟨rfl, n1024⟩ := hnm h1
    subst h1
    clear hnm
    rw [if_neg (by decide)] at R0
    cases h3 : finL t with
    | false =>
      have E : Hid (turnsE t x m = 6) := Lib.hid (by rw [h3] at R0; rw [R0]; rfl)
      have F1 : Hid (∀ w, Fs w a N c t → Calls Try.prog 29 #[.slice a N c] w (fun e w' => e = .returned (.bool false) ∧ Below w.heap.size w w')) := Lib.hid (fun w s => by have := fine_walk a N c t w s; rwa [h3] at this)
      clear R0 h3
      go_enter Try.func18, Try.ntmps18
      go_wp2_with fail
      refine calls_forget (LP w a a' N N c c' t x) P0.out ?_
      intro w1 h
      have P1 := Lib.hid h
      clear P0
      have c1 := h.b1.cell
      have c2 := h.b2.cell
      clear h
      refine (SD.out w1 n63 m63).mono ?_; rintro e w' ⟨rfl, rfl⟩
      go_wp2_with fail
      refine (F1.out w1 P1.out.s).mono ?_; rintro e w2 ⟨rfl, b2⟩
      have P2 := Lib.hid (P1.out.keep b2)
      clear b2 c1 c2
      go_wp2_with fail
      go_ret2
      exact turnsP_err E.out (by decide) P2.out.hb
    | true =>
      have F1 : Hid (∀ w, Fs w a N c t → Calls Try.prog 29 #[.slice a N c] w (fun e w' => e = .returned (.bool true) ∧ Below w.heap.size w w')) := Lib.hid (fun w s => by have := fine_walk a N c t w s; rwa [h3] at this)
      cases h4 : finL x with
      | false =>
        have E : Hid (turnsE t x m = 6) := Lib.hid (by rw [h3, h4] at R0; rw [R0]; rfl)
        have F2 : Hid (∀ w, Fs w a' N c' x → Calls Try.prog 29 #[.slice a' N c'] w (fun e w' => e = .returned (.bool false) ∧ Below w.heap.size w w')) := Lib.hid (fun w s => by have := fine_walk a' N c' x w s; rwa [h4] at this)
        clear R0 h3 h4
        go_enter Try.func18, Try.ntmps18
        go_wp2_with fail
        refine calls_forget (LP w a a' N N c c' t x) P0.out ?_
        intro w1 h
        have P1 := Lib.hid h
        clear P0
        have c1 := h.b1.cell
        have c2 := h.b2.cell
        clear h
        refine (SD.out w1 n63 m63).mono ?_; rintro e w' ⟨rfl, rfl⟩
        go_wp2_with fail
        refine (F1.out w1 P1.out.s).mono ?_; rintro e w2 ⟨rfl, b2⟩
        have P2 := Lib.hid (P1.out.keep b2)
        clear b2 c1 c2
        have c2 := P2.out.b2.cell
        go_wp2_with fail
        refine (F2.out w2 P2.out.s').mono ?_; rintro e w3 ⟨rfl, b3⟩
        have P3 := Lib.hid (P2.out.keep b3)
        clear b3 c2
        go_wp2_with fail
        go_ret2
        exact turnsP_err E.out (by decide) P3.out.hb
      | true =>
        have F2 : Hid (∀ w, Fs w a' N c' x → Calls Try.prog 29 #[.slice a' N c'] w (fun e w' => e = .returned (.bool true) ∧ Below w.heap.size w w')) := Lib.hid (fun w s => by have := fine_walk a' N c' x w s; rwa [h4] at this)
        have FT := Lib.hid h3
        rw [h3, h4] at R0
        by_cases h5 : Nan m
        · have E : Hid (turnsE t x m = 6) := Lib.hid (by rw [R0, if_pos h5]; rfl)
          have q : FloatKind.f64.format.order m m ≠ some Ordering.eq := by rw [fmt64, ne_eq, o_self]; simpa using h5
          have q1 : (FloatKind.f64.format.order m m == some Ordering.eq) = false := by simpa using q
          have q2 : (FloatKind.f64.format.order m m != some Ordering.eq) = true := by simpa using q
          clear R0 h3 h4 h5
          go_enter Try.func18, Try.ntmps18
          go_wp2_with fail
          refine calls_forget (LP w a a' N N c c' t x) P0.out ?_
          intro w1 h
          have P1 := Lib.hid h
          clear P0
          have c1 := h.b1.cell
          have c2 := h.b2.cell
          clear h
          refine (SD.out w1 n63 m63).mono ?_; rintro e w' ⟨rfl, rfl⟩
          go_wp2_with fail
          refine (F1.out w1 P1.out.s).mono ?_; rintro e w2 ⟨rfl, b2⟩
          have P2 := Lib.hid (P1.out.keep b2)
          clear b2 c1 c2
          have c2 := P2.out.b2.cell
          go_wp2_with fail
          refine (F2.out w2 P2.out.s').mono ?_; rintro e w3 ⟨rfl, b3⟩
          have P3 := Lib.hid (P2.out.keep b3)
          clear b3 c2
          go_wp2_with fail
          go_ret2
          exact turnsP_err E.out (by decide) P3.out.hb
        · have R : Hid (turnsE t x m = if !upF t then 2 else 0) := Lib.hid (by rw [R0, if_neg h5]; rfl)
          have q : FloatKind.f64.format.order m m = some Ordering.eq := by rw [fmt64, o_self]; exact h5
          have q1 : (FloatKind.f64.format.order m m == some Ordering.eq) = true := by rw [q]; rfl
          have q2 : (FloatKind.f64.format.order m m != some Ordering.eq) = false := by rw [q]; rfl
          clear R0 h3 h4 h5
          go_enter Try.func18, Try.ntmps18
          go_wp2_with fail
          refine calls_forget (LP w a a' N N c c' t x) P0.out ?_
          intro w1 h
          have P1 := Lib.hid h
          clear P0
          have c1 := h.b1.cell
          have c2 := h.b2.cell
          clear h
          refine (SD.out w1 n63 m63).mono ?_; rintro e w' ⟨rfl, rfl⟩
          go_wp2_with fail
          refine (F1.out w1 P1.out.s).mono ?_; rintro e w2 ⟨rfl, b2⟩
          have P2 := Lib.hid (P1.out.keep b2)
          clear b2 c1 c2
          have c2 := P2.out.b2.cell
          go_wp2_with fail
          refine (F2.out w2 P2.out.s').mono ?_; rintro e w3 ⟨rfl, b3⟩
          have P3 := Lib.hid (P2.out.keep b3)
          clear b3 c2 F1 F2 SD P1 P2
          go_wp2_with fail
          clear q q1 q2
          go_loopw [9] (fun i wr => ∃ k : Nat, k ≤ N - 1 ∧ i = .int .i64 ((k : Int) + 1) ∧ upK t k = true ∧ LP w a a' N N c c' t x wr) (fun i _ => N - (intOf i).toNat)
          case atStart => exact ⟨0, by omega, rfl, rfl, P3.out⟩
          case round =>
            clear P3
            obtain ⟨k, hk, rfl, hu, hp⟩ := hrel
            have HU := Lib.hid hu
            have PR := Lib.hid hp
            have c1 := hp.b1.cell
            clear hu hp
            by_cases hlt : k + 1 < N
            · obtain ⟨b, off, t0, rfl, hb0, ht0, d0, l0⟩ := PR.out.s.at (show k < N by omega)
              obtain ⟨b_, off_, t1, e, hb_, ht1, d1, l1⟩ := PR.out.s.at hlt
              obtain ⟨rfl, rfl⟩ : b = b_ ∧ off = off_ := by simpa using e
              have d1' : wr.cell? ⟨b, off + (k + 1), none⟩ = some (.float .f64 t1) := d1
              have HT0 := Lib.hid ht0
              have HT1 := Lib.hid ht1
              have fin0 := Lib.hid (fin_mem FT.out ht0)
              have fin1 := Lib.hid (fin_mem FT.out ht1)
              have s1 : IntKind.i64.wrap (k : Int) = (k : Int) := IntWalk.i64_in _ (by omega)
              have s2 : 0 ≤ (k : Int) + 1 := by omega
              have s3 : ((k : Int) + 1).toNat = k + 1 := by omega
              have k1 : (k : Int) + 1 < N := by omega
              have k2 : (k : Int) < N := by omega
              clear ht0 ht1 e d1 hb_
              cases hc : clt t0 t1 with
              | true =>
                have HC := Lib.hid hc
                have g : (FloatKind.f64.format.order t1 t0 == some Ordering.lt || FloatKind.f64.format.order t1 t0 == some Ordering.eq) = false := (cle_clt fin0.out.not_nan fin1.out.not_nan).trans (by rw [hc]; rfl)
                clear hc
                go_wp2_with fail
                refine wp_region_drew TNo (by kernel_rfl) (by kernel_rfl) ?_
                repeat' (refine wpSet_step (fun K hK => ?_); go_simp; first | (refine drew_float (x := ?_) (y := ?_) (X := ?_) (Y := ?_) rfl ?_ ?_ ?_ ?_ ?_ ?_; rotate_left 4; (· rfl); (· rfl); (· rfl); (· first | assumption | exact Is.refl _); (· first | assumption | exact Is.refl _); intro v hv hl; refine hK _ ?_; clear hK K) | (refine drew_value (v := ?_) (fun n => ?_) ?_; rotate_left; (· go_simp; rfl); (refine hK _ ?_; clear hK K)))
                refine wpSet_nil ?_
                intro n1
                go_wp2_with fail
                go_roundw
                case rel => exact ⟨k + 1, by omega, by go_num, by rw [upK_succ, HU.out, getD_of HT0.out, getD_of HT1.out, HC.out]; rfl, PR.out.keep (by (repeat' (first | exact Below.refl _ _ | refine below_drewN ?_ _ | refine Below.setCell ?_ (by first | exact Nat.le_refl _ | (simp; done) | (simp; omega)) _ | refine Below.alloc ?_ (by first | exact Nat.le_refl _ | (simp; done) | (simp; omega)) _)))⟩
                case measure => simp [intOf]; omega
              | false =>
                have HC := Lib.hid hc
                have g : (FloatKind.f64.format.order t1 t0 == some Ordering.lt || FloatKind.f64.format.order t1 t0 == some Ordering.eq) = true := (cle_clt fin0.out.not_nan fin1.out.not_nan).trans (by rw [hc]; rfl)
                clear hc
                go_wp2_with fail
                refine wp_region_drew TNo (by kernel_rfl) (by kernel_rfl) ?_
                repeat' (refine wpSet_step (fun K hK => ?_); go_simp; first | (refine drew_float (x := ?_) (y := ?_) (X := ?_) (Y := ?_) rfl ?_ ?_ ?_ ?_ ?_ ?_; rotate_left 4; (· rfl); (· rfl); (· rfl); (· first | assumption | exact Is.refl _); (· first | assumption | exact Is.refl _); intro v hv hl; refine hK _ ?_; clear hK K) | (refine drew_value (v := ?_) (fun n => ?_) ?_; rotate_left; (· go_simp; rfl); (refine hK _ ?_; clear hK K)))
                refine wpSet_nil ?_
                intro n1
                go_wp2_with fail
                go_ret2
                exact turnsP_err (by rw [R.out, show upF t = false from upK_false (j := k) (by rw [getD_of HT0.out, getD_of HT1.out]; exact HC.out) (by rw [LT.out]; omega)]; rfl) (by decide) (below_drewN PR.out.hb _)
            · have UF := Lib.hid (show turnsE t x m = 0 by
                have e : upF t = upK t k := by unfold upF; rw [LT.out]; congr 1; omega
                rw [R.out, e, HU.out]; rfl)
              have ZZ := Lib.hid PR.out.hb.size
              clear R HU
              go_wp2_with fail
              refine wp_forget (fun w5 => LP w a a' N N c c' t x w5) PR.out ?_
              intro w5 p5
              have P5 := Lib.hid p5
              clear PR p5 c1 ZZ
              go_loopw [11, 12] (fun v i wr => ∃ j : Nat, j ≤ N - 2 ∧ i = .int .i64 ((j : Int) + 1) ∧ wr.ownsRow (w.heap.size + 2) 3 1 v (turnsK t x m (j + 1)).length (nns (turnsK t x m (j + 1))) ∧ LP w a a' N N c c' t x wr) (fun _ i _ => N - (intOf i).toNat)
              case atStart => exact ⟨0, by omega, rfl, by rw [turnsK_one]; exact World.ownsRow_nil _ _ _ _, P5.out⟩
              case round =>
                clear P5
                obtain ⟨j, hj, rfl, ho, hp⟩ := hrel
                have HO := Lib.hid ho
                have PR := Lib.hid hp
                have c1 := hp.b1.cell
                have ZL := turnsK_len t x m (j + 1)
                clear ho hp
                by_cases hlt : j + 2 < N
                · have k1 : (j : Int) + 1 + 1 < N := by omega
                  have SA := slope_at PR.out (show (j + 1) + 1 < N by omega)
                  rw [show ((j + 1 : Nat) : Int) = (j : Int) + 1 from rfl] at SA
                  have KL := Lib.hid (turnsK_succ t x m j)
                  go_wp2_with fail
                  refine SA.mono ?_; rintro e w6 ⟨v1, rfl, hv1, b6⟩
                  clear SA c1
                  have P6 := Lib.hid (PR.out.keep b6)
                  have O6 := Lib.hid (ownsB HO.out b6)
                  clear b6 PR HO
                  have SB := slope_at P6.out (show j + 1 < N by omega)
                  go_wp2_with fail
                  refine SB.mono ?_; rintro e w7 ⟨v2, rfl, hv2, b7⟩
                  clear SB
                  have P7 := Lib.hid (P6.out.keep b7)
                  have O7 := Lib.hid (ownsB O6.out b7)
                  clear b7 P6 O6
                  go_wp2_with ((with_reducible refine wpList_float (x := ?_) (y := ?_) (X := ?_) (Y := ?_) rfl rfl ?_ ?_ ?_ ?_ ?_ ?_); (· rfl); (rotate_left 4); (· rfl); (· rfl); (· first | assumption | exact Is.refl _); (· first | assumption | exact Is.refl _); intro v n hv hl)
                  have TA : Hid (∀ va, Is va (fabs (fsub (slope t x (j + 1)) (slope t x j))) → (FloatKind.f64.format.order va m == some Ordering.gt) = turnsAt t x m (j + 1)) := Lib.hid fun va h => cgt_is h (Is.refl m)
                  refine (abs_is v (fsub (slope t x (j + 1)) (slope t x j)) _ hl hv).mono ?_; rintro e w' ⟨va, rfl, hva, rfl⟩
                  have g := TA.out va hva
                  clear hv1 hv2 hv hva TA
                  cases ht : turnsAt t x m (j + 1) with
                  | true =>
                    have KM : Hid (turnsK t x m (j + 1 + 1) = turnsK t x m (j + 1) ++ [j + 1]) := Lib.hid (by have := KL.out; rw [ht] at this; exact this)
                    rw [ht] at g
                    clear KL ht
                    have zz := P7.out.b2.lt
                    go_wp2_with (refine Go.wpList_append_own _ rfl (.tmp 67) (.tmp 69) 38 rfl (w.heap.size + 2) 3 I _ 1 8 Try.und38 hi hz hsz hby rfl (by decide) _ _ _ rfl (ownsD (O7.out.alloc _) _) ⟨w7.heap.size, 0, none⟩ 1 1 [.int .i64 ((j : Int) + 1)] rfl rfl (new1 w7 _ _ _) (one1 rfl) (by simp only [maxLen]; omega) (by omega) (by simp [World.drewN]; omega) ?_; intro v9 w9 ow9 gr9 _; have hB9 := Lib.hid ((P7.out.keep (w2 := (w7.alloc _).drewN _) (below_drewN ((Below.refl _ w7).alloc (Nat.le_refl _) _) _)).grown (ownsD (O7.out.alloc _) _) gr9); have O9 := Lib.hid ow9; clear ow9 gr9)
                    go_roundw
                    case rel => exact ⟨j + 1, by omega, by go_num, by rw [KM.out, nns_snoc, List.length_append]; exact O9.out, hB9.out⟩
                    case measure => simp [intOf]; omega
                  | false =>
                    have KM : Hid (turnsK t x m (j + 1 + 1) = turnsK t x m (j + 1)) := Lib.hid (by have := KL.out; rw [ht] at this; simpa using this)
                    rw [ht] at g
                    clear KL ht
                    go_wp2_with fail
                    go_roundw
                    case rel => exact ⟨j + 1, by omega, by go_num, by rw [KM.out]; exact O7.out, P7.out.keep (below_drewN (Below.refl _ _) _)⟩
                    case measure => simp [intOf]; omega
                · have k1 : ¬ (j : Int) + 1 + 1 < N := by omega
                  have E : Hid (turnsR t x m = turnsK t x m (j + 1)) := Lib.hid (by
                    unfold turnsR; rw [UF.out, if_pos rfl]; unfold turnsL; rw [LT.out]
                    by_cases h2 : 2 ≤ N
                    · congr 1; omega
                    · rw [show N - 1 = 0 by omega, show j = 0 by omega, turnsK_zero, turnsK_one])
                  go_wp2_with fail
                  refine bodyPost_ret (v := ?_) ?_ rfl ?_
                  rotate_left
                  · simp [results, Try.results18, go_sem]; rfl
                  · exact ⟨_, by rw [UF.out], by rw [E.out]; exact HO.out.mono (by omega), PR.out.hb⟩
  · have E : Hid (turnsE t x m = se) := Lib.hid (by rw [if_pos h1] at R0; exact R0)
    clear R0 hnm
    go_enter Try.func18, Try.ntmps18
    go_wp2_with fail
    refine calls_forget (LP w a a' N M c c' t x) P0.out ?_
    intro w1 h
    have P1 := Lib.hid h
    clear P0
    have c1 := h.b1.cell
    have c2 := h.b2.cell
    clear h
    refine (SD.out w1 n63 m63).mono ?_; rintro e w' ⟨rfl, rfl⟩
    go_wp2_with fail
    go_ret2
    exact turnsP_err E.out h1 P1.out.hb
end Go.Proofs.Ytoobpiednigcgaa
