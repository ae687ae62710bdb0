import Derived.Test.YtoobpiednigcgaaSmT
set_option autoImplicit false
set_option linter.unusedVariables false
namespace Go.Proofs.Ytoobpiednigcgaa
open Go.RowKit Lk
structure TN (f : FuncId) (args : Array Value) (u : Value) (w : World) : Prop where
  a : False
def TAbs : FuncId → Array Value → Value → Prop := fun _ args u => ∃ x, args = #[.float .f64 x] ∧ u = .float .f64 (fabs x)
theorem bothG_slice {P : Program} {W : World} {T : FuncId → Array Value → Value → World → Prop} {K : Kont} {a : Act} {F : World → Prop} {o : Oper} {ob : Obj} {l c : Nat} (h : ∀ w', (execOp a.eval o).run P w' = .ok (.value (.slice (some ⟨w'.heap.size, 0, none⟩) l c)) (w'.alloc ob))
    (hk : ∀ n x, W.heap.size ≤ n → n < x.heap.size → x.heap[n]? = some ob → K (a.put o.dst (.slice (some ⟨n, 0, none⟩) l c)) (And1 F x)) : bothG P W T o a F K := by
  refine bothG_values (S := fun u x => ∃ n, u = .slice (some ⟨n, 0, none⟩) l c ∧ W.heap.size ≤ n ∧ n < x.heap.size ∧ x.heap[n]? = some ob) ?_ (fun u x ⟨n, hu, h1, h2, h3⟩ => hu ▸ hk n x h1 h2 h3)
  intro w hw
  refine ⟨_, _, h w, ⟨_, rfl, hw.size, by simp, ?_⟩, (Below.refl _ w).alloc (Nat.le_refl _) ob⟩
  show (w.heap.push ob)[w.heap.size]? = some ob
  simp
theorem one_cells {w : World} {g : Nat} {u : Value} {t : TypeId} (hn : w.heap[g]? = some (.cells #[u] t (0, 0))) : ∀ (j : Nat) (x : Value), [u][j]? = some x → w.cell? ((⟨g, 0, none⟩ : Addr).add j) = some x := by
  intro j x h
  rw [addr_add, cell_of_heap hn j]
  match j, h with
  | 0, h => exact h
def slL (t x : List Nat) (n : Nat) : List Nat := (List.range (n - 1)).map (slope t x)
theorem slL_some {t x : List Nat} {n k : Nat} (h : k < n - 1) : (slL t x n)[k]? = some (slope t x k) := by
  unfold slL; rw [List.getElem?_map, List.getElem?_range h]; rfl
theorem isnan_b (m : Nat) (b : Bool) (h : decide (Nan m) = b) (w : World) : Calls Try.prog 48 #[.float .f64 m] w (fun e w' => e = .returned (.bool b) ∧ w = w') := by subst h; exact isnan_walk m w
set_option maxHeartbeats 4000000 in
theorem rturns_walk (a a' : Option Addr) (N M c c' : Nat) (t x : List Nat) (m : Nat) (w : World) (s : Fs w a N c t) (s' : Fs w a' M c' x) :
    Calls Try.prog 19 #[.slice a N c, .slice a' M c', .float .f64 m] w (TurnsP t x m w) := by
  obtain ⟨I, hi, hz, hsz, hby⟩ := info_parts int_info
  obtain ⟨J, ji, jz, jsz, jby⟩ := info_parts flt_info
  have n63 : N ≤ 9223372036854775807 := Nat.le_trans s.le s.small
  have m63 : M ≤ 9223372036854775807 := Nat.le_trans s'.le s'.small
  have S := Lib.hid (And.intro s s')
  have lt := s.len
  have lx := s'.len
  have LT := Lib.hid lt
  have LX := Lib.hid lx
  have R0 : turnsE t x m = if N ≠ M then 5 else if 1024 < N then 3 else if !(finL t && finL x) then 6 else if Nan m then 6 else if !upF t then 2 else 0 := by
    unfold turnsE
    rw [lt, lx]
  clear lt lx s s'
  by_cases h1 : N = M
  · subst h1
    rw [if_neg (by simp)] at R0
    by_cases h2 : 1024 < N
    · have E : Hid (turnsE t x m = 3) := Lib.hid (by rw [if_pos h2] at R0; exact R0)
      clear R0
      go_enter Try.func19, Try.ntmps19
      go_wp2_with fail
      go_ret2
      exact turnsP_err E.out (by decide) (Below.refl _ _)
    · rw [if_neg h2] at R0
      have I1 := finite_walk a N c t w S.out.1
      have I2 := finite_walk a' N c' x w S.out.2
      cases h4 : finL t with
      | false =>
        rw [h4] at I1
        have E : Hid (turnsE t x m = 6) := Lib.hid (by rw [h4] at R0; rw [R0]; rfl)
        clear R0 h4 I2
        go_enter Try.func19, Try.ntmps19
        go_wp2_with fail
        refine I1.mono ?_; rintro e w' ⟨rfl, rfl⟩
        go_wp2_with fail
        go_ret2
        exact turnsP_err E.out (by decide) (Below.refl _ _)
      | true =>
        rw [h4] at I1
        have FT := Lib.hid h4
        cases h5 : finL x with
        | false =>
          rw [h5] at I2
          have E : Hid (turnsE t x m = 6) := Lib.hid (by rw [h4, h5] at R0; rw [R0]; rfl)
          clear R0 h4 h5
          go_enter Try.func19, Try.ntmps19
          go_wp2_with fail
          refine I1.mono ?_; rintro e w' ⟨rfl, rfl⟩
          go_wp2_with fail
          refine I2.mono ?_; rintro e w' ⟨rfl, rfl⟩
          go_wp2_with fail
          go_ret2
          exact turnsP_err E.out (by decide) (Below.refl _ _)
        | true =>
          rw [h5] at I2
          rw [h4, h5] at R0
          by_cases h6 : Nan m
          · have E : Hid (turnsE t x m = 6) := Lib.hid (by rw [R0, if_pos h6]; rfl)
            have NM := Lib.hid (decide_eq_true h6)
            clear R0 h4 h5 h6
            go_enter Try.func19, Try.ntmps19
            go_wp2_with fail
            refine I1.mono ?_; rintro e w' ⟨rfl, rfl⟩
            go_wp2_with fail
            refine I2.mono ?_; rintro e w' ⟨rfl, rfl⟩
            go_wp2_with fail
            refine (isnan_b m true NM.out _).mono ?_; rintro e w' ⟨rfl, rfl⟩
            go_wp2_with fail
            go_ret2
            exact turnsP_err E.out (by decide) (Below.refl _ _)
          · have R : Hid (turnsE t x m = if !upF t then 2 else 0) := Lib.hid (by rw [R0, if_neg h6]; rfl)
            have NM := Lib.hid (decide_eq_false h6)
            clear R0 h4 h5 h6
            go_enter Try.func19, Try.ntmps19
            go_wp2_with fail
            refine I1.mono ?_; rintro e w' ⟨rfl, rfl⟩
            go_wp2_with fail
            refine I2.mono ?_; rintro e w' ⟨rfl, rfl⟩
            go_wp2_with fail
            refine (isnan_b m false NM.out _).mono ?_; rintro e w' ⟨rfl, rfl⟩
            clear I1 I2 NM
            go_wp2_with fail
            go_loopw [8] (fun i wr => ∃ k : Nat, k ≤ N - 1 ∧ i = .int .i64 ((k : Int) + 1) ∧ upK t k = true ∧ Below w.heap.size w wr) (fun i _ => N - (intOf i).toNat)
            case atStart => exact ⟨0, by omega, rfl, rfl, Below.refl _ _⟩
            case round =>
              obtain ⟨k, hk, rfl, hu, hp⟩ := hrel
              have HU := Lib.hid hu
              have PR := Lib.hid hp
              clear hu hp
              by_cases hlt : k + 1 < N
              · obtain ⟨b, off, t0, rfl, hb0, ht0, d0, l0⟩ := (S.out.1.keep PR.out).at (show k < N by omega)
                obtain ⟨b_, off_, t1, e, hb_, ht1, d1, l1⟩ := (S.out.1.keep PR.out).at hlt
                obtain ⟨rfl, rfl⟩ : b = b_ ∧ off = off_ := by simpa using e
                have d1' : wr.cell? ⟨b, off + (k + 1), none⟩ = some (.float .f64 t1) := d1
                have HT0 := Lib.hid ht0
                have HT1 := Lib.hid ht1
                have s1 : IntKind.i64.wrap (k : Int) = (k : Int) := IntWalk.i64_in _ (by omega)
                have s2 : 0 ≤ (k : Int) + 1 := by omega
                have s3 : ((k : Int) + 1).toNat = k + 1 := by omega
                have k1 : (k : Int) + 1 < N := by omega
                have k2 : (k : Int) < N := by omega
                clear ht0 ht1 e d1 hb_
                have gq : (FloatKind.f64.format.order t1 t0 == some Ordering.gt) = clt t0 t1 := by
                  rw [fmt64]; show cgt t1 t0 = clt t0 t1
                  rw [Bool.eq_iff_iff, cgt_iff, clt_iff]
                  exact ⟨fun ⟨a, b, c⟩ => ⟨b, a, c⟩, fun ⟨a, b, c⟩ => ⟨b, a, c⟩⟩
                cases hc : clt t0 t1 with
                | true =>
                  have HC := Lib.hid hc
                  rw [hc] at gq
                  clear hc
                  go_wp2_with fail
                  refine wp_region_drew TNo (by kernel_rfl) (by kernel_rfl) ?_
                  repeat' (refine wpSet_step (fun K hK => ?_); go_simp; first | (refine drew_float (x := ?_) (y := ?_) (X := ?_) (Y := ?_) rfl ?_ ?_ ?_ ?_ ?_ ?_; rotate_left 4; (· rfl); (· rfl); (· rfl); (· first | assumption | exact Is.refl _); (· first | assumption | exact Is.refl _); intro v hv hl; refine hK _ ?_; clear hK K) | (refine drew_value (v := ?_) (fun n => ?_) ?_; rotate_left; (· go_simp; rfl); (refine hK _ ?_; clear hK K)))
                  refine wpSet_nil ?_
                  intro n1
                  go_wp2_with fail
                  go_roundw
                  case rel => exact ⟨k + 1, by omega, by go_num, by rw [upK_succ, HU.out, getD_of HT0.out, getD_of HT1.out, HC.out]; rfl, below_drewN PR.out _⟩
                  case measure => simp [intOf]; omega
                | false =>
                  have HC := Lib.hid hc
                  rw [hc] at gq
                  clear hc
                  go_wp2_with fail
                  refine wp_region_drew TNo (by kernel_rfl) (by kernel_rfl) ?_
                  repeat' (refine wpSet_step (fun K hK => ?_); go_simp; first | (refine drew_float (x := ?_) (y := ?_) (X := ?_) (Y := ?_) rfl ?_ ?_ ?_ ?_ ?_ ?_; rotate_left 4; (· rfl); (· rfl); (· rfl); (· first | assumption | exact Is.refl _); (· first | assumption | exact Is.refl _); intro v hv hl; refine hK _ ?_; clear hK K) | (refine drew_value (v := ?_) (fun n => ?_) ?_; rotate_left; (· go_simp; rfl); (refine hK _ ?_; clear hK K)))
                  refine wpSet_nil ?_
                  intro n1
                  go_wp2_with fail
                  go_ret2
                  exact turnsP_err (by rw [R.out, show upF t = false from upK_false (j := k) (by rw [getD_of HT0.out, getD_of HT1.out]; exact HC.out) (by rw [LT.out]; omega)]; rfl) (by decide) (below_drewN PR.out _)
              · have UF := Lib.hid (show turnsE t x m = 0 by
                  have e : upF t = upK t k := by unfold upF; rw [LT.out]; congr 1; omega
                  rw [R.out, e, HU.out]; rfl)
                clear R HU
                go_wp2_with fail
                refine wp_forget (fun w5 => Below w.heap.size w w5) PR.out ?_
                intro w5 p5
                have P5 := Lib.hid p5
                clear PR p5
                go_loopw [9, 10] (fun v i wr => ∃ (j : Nat) (A : List Nat), j ≤ N - 1 ∧ i = .int .i64 j ∧ wr.ownsRow w.heap.size 24 1 v j (fls A) ∧ (∀ z ∈ A, z < 2 ^ 64) ∧ Pw A (slL t x N) ∧ Below w.heap.size w wr) (fun _ i _ => N - (intOf i).toNat)
                case atStart => exact ⟨0, [], by omega, rfl, World.ownsRow_nil _ _ _ _, (fun z hz => by cases hz), (fun j y Y h => by cases h), P5.out⟩
                case round =>
                  clear P5
                  obtain ⟨j, A, hj, rfl, ho, hl, hw, hp⟩ := hrel
                  have HO := Lib.hid ho
                  have HL := Lib.hid hl
                  have HW := Lib.hid hw
                  have PR := Lib.hid hp
                  have zw := hp.size
                  clear ho hp hl hw
                  by_cases hlt : j + 1 < N
                  · obtain ⟨b, off, t0, rfl, hb0, ht0, d0, l0⟩ := (S.out.1.keep PR.out).at (show j < N by omega)
                    obtain ⟨b_, off_, t1, e, hb_, ht1, d1, l1⟩ := (S.out.1.keep PR.out).at hlt
                    obtain ⟨rfl, rfl⟩ : b = b_ ∧ off = off_ := by simpa using e
                    clear e hb_
                    obtain ⟨b', off', x0, rfl, hb0', hx0, d0', l0'⟩ := (S.out.2.keep PR.out).at (show j < N by omega)
                    obtain ⟨b_, off_, x1, e, hb_, hx1, d1', l1'⟩ := (S.out.2.keep PR.out).at hlt
                    obtain ⟨rfl, rfl⟩ : b' = b_ ∧ off' = off_ := by simpa using e
                    clear e hb_
                    have SL := Lib.hid (show (slL t x N)[j]? = some (fdiv (fsub x1 x0) (fsub t1 t0)) by
                      rw [slL_some (by omega)]; unfold slope; rw [getD_of ht0, getD_of ht1, getD_of hx0, getD_of hx1])
                    clear ht0 ht1 hx0 hx1
                    have e1 : wr.cell? ⟨b, off + (j + 1), none⟩ = some (.float .f64 t1) := d1
                    have e2 : wr.cell? ⟨b', off' + (j + 1), none⟩ = some (.float .f64 x1) := d1'
                    have s1 : IntKind.i64.wrap ((j : Int) + 1) = (j : Int) + 1 := IntWalk.i64_in _ (by omega)
                    have s2 : 0 ≤ (j : Int) + 1 := by omega
                    have s3 : ((j : Int) + 1).toNat = j + 1 := by omega
                    have k1 : (j : Int) + 1 < N := by omega
                    have k2 : (j : Int) < N := by omega
                    clear d1 d1'
                    go_wp2_with fail
                    refine wp_region_G_tail 23 TN (by kernel_rfl) (by kernel_rfl) ?_
                    simp only [List.take, List.drop]
                    repeat' (refine wpG_step' (fun K hA hK => ?_); go_simp; first | (refine bothG_float hA (x := ?_) (y := ?_) (X := ?_) (Y := ?_) rfl ?_ ?_ ?_ ?_ ?_ ?_; rotate_left 4; (· rfl); (· rfl); (· rfl); (· first | assumption | exact Is.refl _); (· first | assumption | exact Is.refl _); intro v hv hl; refine hK _ _ ?_; clear hK hA K) | (refine bothG_value hA (v := ?_) (fun w' hw' => ?_) ?_; rotate_left; (· go_simp; rfl); (refine hK _ _ ?_; clear hK hA K)) | (refine bothG_slice (ob := ?_) (l := 1) (c := 1) (fun w' => ?_) ?_; rotate_left; (· go_simp; rfl); (intro g w8 hm1 hm2 hm3; refine hK _ _ ?_; clear hK hA K)))
                    refine wpG_nil ?_
                    intro w6 hb6 hF
                    have hx2 : Ext w8 w6 := hF.2
                    have hm4 := (hx2.block g hm2).trans hm3
                    have O6 := ownsB HO.out hb6
                    have B6 := PR.out.trans (hb6.mono zw)
                    have z6 := hb6.size
                    clear hF hx2 hm2 hm3 hb6
                    go_wp2_with (refine wpList_append_own _ rfl (.tmp 57) (.tmp 79) 23 rfl w.heap.size 24 J _ 1 8 Try.und23 ji jz jsz jby rfl (by decide) _ j (fls A) rfl O6 ⟨g, 0, none⟩ 1 1 [.float .f64 v] rfl rfl (one_cells hm4) (one1 rfl) (by simp only [maxLen]; omega) (by omega) (by omega) ?_; intro v' w9 ow gr _)
                    have hlen : A.length = j := by have := HO.out.1; simpa [fls] using this
                    exact ⟨⟨j + 1, A ++ [v], by omega, by go_num, by rw [fls_snoc]; exact ow, mem_snoc HL.out hl, HW.out.snoc hlen SL.out hv, grownB B6 gr O6 (by omega)⟩, by simp [intOf]; omega⟩
                  · obtain ⟨a1, p1, rfl, f1⟩ := own_fs HO.out HL.out
                    have NJ : Hid (j = N - 1) := Lib.hid (by omega)
                    have k1 : ¬ (j : Int) + 1 < N := by omega
                    have HN : j ≤ 1024 := by omega
                    have f2 := And.intro f1 PR.out
                    clear f1 HO
                    go_wp2_with fail
                    refine wp_forget (fun w5 => Fs w5 a1 j p1 A ∧ Below w.heap.size w w5) f2 ?_
                    rintro w6 ⟨f6, b6⟩
                    have F6 := Lib.hid f6
                    have B6 := Lib.hid b6
                    clear f2 PR f6 b6 k1 zw
                    go_loopw [11, 12] (fun v i wr => ∃ p : Nat, p ≤ j - 1 ∧ i = .int .i64 ((p : Int) + 1) ∧ wr.ownsRow w6.heap.size 3 1 v (turnsK t x m (p + 1)).length (nns (turnsK t x m (p + 1))) ∧ Below w6.heap.size w6 wr) (fun _ i _ => N - (intOf i).toNat)
                    case atStart => exact ⟨0, by omega, rfl, by rw [turnsK_one]; exact World.ownsRow_nil _ _ _ _, Below.refl _ _⟩
                    case round =>
                      obtain ⟨p, hp, rfl, ho, hb⟩ := hrel
                      have HO := Lib.hid ho
                      have PR := Lib.hid hb
                      have ZL := turnsK_len t x m (p + 1)
                      have zw := hb.size
                      clear ho hb
                      by_cases hlt : p + 1 < j
                      · have k1 : (p : Int) + 1 < j := by omega
                        have k2 : (p : Int) < j := by omega
                        have KL := Lib.hid (turnsK_succ t x m p)
                        obtain ⟨b, off, y0, rfl, hb0, hy0, d0, l0⟩ := (F6.out.keep PR.out).at (show p < j by omega)
                        obtain ⟨b_, off_, y1, e, hb_, hy1, d1, l1⟩ := (F6.out.keep PR.out).at hlt
                        obtain ⟨rfl, rfl⟩ : b = b_ ∧ off = off_ := by simpa using e
                        clear e hb_
                        have i0 := HW.out _ _ _ hy0 (slL_some (by have := NJ.out; omega))
                        have i1 := HW.out _ _ _ hy1 (slL_some (by have := NJ.out; omega))
                        have e1 : wr.cell? ⟨b, off + (p + 1), none⟩ = some (.float .f64 y1) := d1
                        have s1 : IntKind.i64.wrap (p : Int) = (p : Int) := IntWalk.i64_in _ (by omega)
                        have s2 : 0 ≤ (p : Int) + 1 := by omega
                        have s3 : ((p : Int) + 1).toNat = p + 1 := by omega
                        clear d1 hy0 hy1
                        have TA : Hid (∀ va, Is va (fop BinOp.sub (slope t x (p + 1)) (slope t x p)) → (FloatKind.f64.format.order (fabs va) m == some Ordering.gt) = turnsAt t x m (p + 1)) := Lib.hid fun va h => cgt_is (is_fabs h) (Is.refl m)
                        cases ht : turnsAt t x m (p + 1) with
                        | true =>
                          have KM : Hid (turnsK t x m (p + 1 + 1) = turnsK t x m (p + 1) ++ [p + 1]) := Lib.hid (by have := KL.out; rw [ht] at this; exact this)
                          have HT := Lib.hid ht
                          clear KL ht
                          go_wp2_with fail
                          refine wp_region_drew TAbs (by kernel_rfl) (by kernel_rfl) ?_
                          repeat' (refine wpSet_step (fun K hK => ?_); go_simp; first | ((refine drew_float (x := ?_) (y := ?_) (X := ?_) (Y := ?_) rfl ?_ ?_ ?_ ?_ ?_ ?_; rotate_left 4; (· rfl); (· rfl); (· rfl); (· first | assumption | exact Is.refl _); (· first | assumption | exact Is.refl _); intro v hv hl; refine hK _ ?_; clear hK K); have g := (TA.out v hv).trans HT.out) | (refine drew_call (f := 47) (args := ?_) (fun n => ?_) (fun n => ?_) ?_; rotate_left; (· go_simp; rfl); (· exact (abs_walk _ _ (by assumption)).mono (by rintro e w' ⟨rfl, rfl⟩; exact ⟨_, rfl, ⟨_, rfl, rfl⟩, n, rfl⟩)); (rintro u ⟨x', hx', rfl⟩; cases hx'; refine hK _ ?_; clear hK K)) | (refine drew_value (v := ?_) (fun n => ?_) ?_; rotate_left; (· go_simp; rfl); (refine hK _ ?_; clear hK K)))
                          refine wpSet_nil ?_
                          intro n1
                          clear TA HT hv i0 i1
                          go_wp2_with (refine wpList_append_own _ rfl (.tmp 100) (.tmp 102) 38 rfl w6.heap.size 3 I _ 1 8 Try.und38 hi hz hsz hby rfl (by decide) _ _ _ rfl (ownsD (HO.out.alloc _) _) ⟨wr.heap.size, 0, none⟩ 1 1 [.int .i64 ((p : Int) + 1)] rfl rfl (new1 wr _ _ _) (one1 rfl) (by simp only [maxLen]; omega) (by omega) (by simp [World.drewN]; omega) ?_; intro v9 w9 ow9 gr9 _; have hB9 := Lib.hid (grownB (below_drewN (PR.out.alloc zw _) _) gr9 (ownsD (HO.out.alloc _) _) (by simp [World.drewN]; omega)); have O9 := Lib.hid ow9; clear ow9 gr9)
                          go_roundw
                          case rel => exact ⟨p + 1, by omega, by go_num, by rw [KM.out, nns_snoc, List.length_append]; exact O9.out, hB9.out⟩
                          case measure => simp [intOf]; omega
                        | false =>
                          have KM : Hid (turnsK t x m (p + 1 + 1) = turnsK t x m (p + 1)) := Lib.hid (by have := KL.out; rw [ht] at this; simpa using this)
                          have HT := Lib.hid ht
                          clear KL ht
                          go_wp2_with fail
                          refine wp_region_drew TAbs (by kernel_rfl) (by kernel_rfl) ?_
                          repeat' (refine wpSet_step (fun K hK => ?_); go_simp; first | ((refine drew_float (x := ?_) (y := ?_) (X := ?_) (Y := ?_) rfl ?_ ?_ ?_ ?_ ?_ ?_; rotate_left 4; (· rfl); (· rfl); (· rfl); (· first | assumption | exact Is.refl _); (· first | assumption | exact Is.refl _); intro v hv hl; refine hK _ ?_; clear hK K); have g := (TA.out v hv).trans HT.out) | (refine drew_call (f := 47) (args := ?_) (fun n => ?_) (fun n => ?_) ?_; rotate_left; (· go_simp; rfl); (· exact (abs_walk _ _ (by assumption)).mono (by rintro e w' ⟨rfl, rfl⟩; exact ⟨_, rfl, ⟨_, rfl, rfl⟩, n, rfl⟩)); (rintro u ⟨x', hx', rfl⟩; cases hx'; refine hK _ ?_; clear hK K)) | (refine drew_value (v := ?_) (fun n => ?_) ?_; rotate_left; (· go_simp; rfl); (refine hK _ ?_; clear hK K)))
                          refine wpSet_nil ?_
                          intro n1
                          clear TA HT hv i0 i1
                          go_wp2_with fail
                          go_roundw
                          case rel => exact ⟨p + 1, by omega, by go_num, by rw [KM.out]; exact HO.out, below_drewN PR.out _⟩
                          case measure => simp [intOf]; omega
                      · have k1 : ¬ (p : Int) + 1 < j := by omega
                        have E : Hid (turnsR t x m = turnsK t x m (p + 1)) := Lib.hid (by
                          unfold turnsR; rw [UF.out, if_pos rfl]; unfold turnsL; rw [LT.out]
                          have := NJ.out
                          by_cases h2 : 2 ≤ N
                          · congr 1; omega
                          · rw [show N - 1 = 0 by omega, show p = 0 by omega, turnsK_zero, turnsK_one])
                        go_wp2_with fail
                        refine bodyPost_ret (v := ?_) ?_ rfl ?_
                        rotate_left
                        · simp [results, Try.results19, go_sem]; rfl
                        · exact ⟨_, by rw [UF.out], by rw [E.out]; exact HO.out.mono B6.out.size, B6.out.trans (PR.out.mono B6.out.size)⟩
  · have E : Hid (turnsE t x m = 5) := Lib.hid (by rw [if_pos h1] at R0; exact R0)
    have h2 : ¬ (N : Int) = M := by omega
    clear R0
    go_enter Try.func19, Try.ntmps19
    go_wp2_with fail
    go_ret2
    exact turnsP_err E.out (by decide) (Below.refl _ _)
end Go.Proofs.Ytoobpiednigcgaa
