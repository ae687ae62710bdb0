import Derived.Test.YtgdkmakmdomdbaaPnU
import Derived.Test.YtgdkmakmdomdbaaPnS
set_option autoImplicit false
set_option linter.unusedVariables false
namespace Go.Proofs.Ytgdkmakmdomdbaa
open Go.RowKit Lk Pn
theorem ret2i {a b a' b' : Int} (h : a = a') (k : b = b') : Ending.returned (.tuple #[.int .i64 a, .int .i64 b]) = .returned (.tuple #[.int .i64 a', .int .i64 b']) := by rw [h, k]
def tks (l : List Ln) : List Tk := l.map (·.t)
structure LR (l : List Ln) (k n d : Nat) : Prop where
  n1 : n ≤ 4611686018427387904
  d0 : 1 ≤ d
  d1 : d ≤ 4611686018427387904
  eq : loadK (0, 1) (tks l) = loadK (n, d) (tks (l.drop k))
theorem LR.no {l : List Ln} {k n d : Nat} {x : Ln} (h : LR l k n d) (hx : l[k]? = some x) (e : loadS (n, d) x.t = none) : loadF (tks l) = (0, 0) := by
  unfold loadF
  rw [h.eq]
  have : l.drop k = x :: l.drop (k + 1) := by
    obtain ⟨h1, h2⟩ := List.getElem?_eq_some_iff.1 hx
    rw [← h2]; exact List.drop_eq_getElem_cons h1
  rw [this]
  simp only [tks, List.map_cons, loadK, e]; rfl
theorem LR.next {l : List Ln} {k n d n' d' : Nat} {x : Ln} (h : LR l k n d) (hx : l[k]? = some x) (e : loadS (n, d) x.t = some (n', d')) (h1 : n' ≤ 4611686018427387904) (h2 : 1 ≤ d') (h3 : d' ≤ 4611686018427387904) : LR l (k + 1) n' d' := by
  refine ⟨h1, h2, h3, ?_⟩
  rw [h.eq]
  have : l.drop k = x :: l.drop (k + 1) := by
    obtain ⟨h1, h2⟩ := List.getElem?_eq_some_iff.1 hx
    rw [← h2]; exact List.drop_eq_getElem_cons h1
  rw [this]
  simp only [tks, List.map_cons, loadK, e]
theorem LR.fin {l : List Ln} {n d : Nat} (h : LR l l.length n d) : loadF (tks l) = (n, d) := by
  unfold loadF
  rw [h.eq, List.drop_length]; rfl
theorem loadS_eq {n d E G : Nat} {rk : Int} : loadS (n, d) ⟨E, G, rk⟩ = if 4611686018427387904 < d / Nat.gcd d E * E ∨ 4611686018427387904 < n * (E / Nat.gcd d E) ∨ 4611686018427387904 < G * (d / Nat.gcd d E) ∨ 4611686018427387904 < n * (E / Nat.gcd d E) + G * (d / Nat.gcd d E) then none
    else some ((n * (E / Nat.gcd d E) + G * (d / Nat.gcd d E)) / Nat.gcd (d / Nat.gcd d E * E) (n * (E / Nat.gcd d E) + G * (d / Nat.gcd d E)), (d / Nat.gcd d E * E) / Nat.gcd (d / Nat.gcd d E * E) (n * (E / Nat.gcd d E) + G * (d / Nat.gcd d E))) := by
  unfold loadS BND
  simp only [Int.toNat_natCast, Bool.or_eq_true, decide_eq_true_eq, or_assoc]
set_option maxRecDepth 100000 in
set_option maxHeartbeats 4000000 in
theorem load_walk (p lb cap : Nat) (vs : List Value) (S : Nat → Prop) (st : Pl) (w : World) (h : PAx cY w S p lb cap vs st) (hok : ∀ x ∈ st.l, OkL x) :
    Calls Try.prog 13 #[.pointer (some ⟨p, 0, none⟩)] w (fun e w' => e = .returned (.tuple #[.int .i64 (loadF (tks st.l)).1, .int .i64 (loadF (tks st.l)).2]) ∧ Below w.heap.size w w') := by
  obtain ⟨l, now⟩ := st
  simp only at hok ⊢
  obtain ⟨m, hm⟩ : ∃ m, m = l.length := ⟨_, rfl⟩
  have H := Lib.hid h
  have OK := Lib.hid hok
  have p0 := h.p0
  have cc := h.cap1
  have c63 := h.cap2
  simp only at p0 cc
  rw [← hm] at p0 cc
  have HM := Lib.hid hm
  clear h hok hm
  go_enter Try.func13, Try.ntmps13
  go_wp2_with fail
  go_loopw [4, 5, 23] (fun vn vd vi wr => ∃ n d k : Nat, vn = .int .u64 n ∧ vd = .int .u64 d ∧ vi = .int .i64 k ∧ k ≤ m ∧ LR l k n d ∧ Below w.heap.size w wr) (fun _ _ i _ => m - (intOf i).toNat)
  case atStart => exact ⟨0, 1, 0, rfl, rfl, rfl, by omega, ⟨by omega, by omega, by omega, rfl⟩, Below.refl _ _⟩
  case round =>
    obtain ⟨n, d, k, rfl, rfl, rfl, hk, hr, hb⟩ := hrel
    have P := Lib.hid (H.out.below hb)
    have p0 := P.out.p0
    simp only at p0
    rw [← HM.out] at p0
    have HR := Lib.hid hr
    have HB := Lib.hid hb
    have n1 := hr.n1
    have d0 := hr.d0
    have d1 := hr.d1
    clear hr hb
    by_cases hlt : k < m
    · have hk64 : (k : Int) < (m : Int) := by omega
      obtain ⟨x, hx⟩ : ∃ x, l[k]? = some x := ⟨_, List.getElem?_eq_getElem (by rw [← HM.out]; exact hlt)⟩
      have ok := OK.out x (List.mem_of_getElem? hx)
      obtain ⟨v, hv, A, W⟩ := P.out.ln hx
      obtain ⟨⟨ev, lg, rk⟩, nx, wt, lf⟩ := x
      have e1 := ok.ev1
      have e2 := ok.ev2
      have g1 := ok.lg1
      have g2 := ok.lg2
      simp only at e1 e2 g1 g2
      obtain ⟨E, rfl⟩ : ∃ E : Nat, ev = (E : Int) := ⟨ev.toNat, by omega⟩
      obtain ⟨G, rfl⟩ : ∃ G : Nat, lg = (G : Int) := ⟨lg.toNat, by omega⟩
      have c0 := A.c0
      have c1 := A.c1
      simp only at c0 c1
      have HX := Lib.hid hx
      clear hx A W hv ok v
      obtain ⟨g, hg⟩ : ∃ g, g = Nat.gcd d E := ⟨_, rfl⟩
      have g0 : 0 < g := by rw [hg]; exact Nat.gcd_pos_of_pos_left _ d0
      have gd : d / g ≤ d := Nat.div_le_self _ _
      have gE : E / g ≤ E := Nat.div_le_self _ _
      have gdv : g ∣ d := by rw [hg]; exact Nat.gcd_dvd_left _ _
      have dq1 : 1 ≤ d / g := Nat.div_pos (Nat.le_of_dvd d0 gdv) g0
      have GW := fun w => gcd_walk d E (by omega) (by omega) w
      rw [← hg] at GW
      have HG := Lib.hid hg
      have GW1 := Lib.hid GW
      clear hg GW gdv
      go_wp2_with fail
      go_quiet (fail)
      go_wp2_with fail
      refine (GW1.out _).mono ?_
      rintro e w2 ⟨rfl, b2⟩
      have HB2 := Lib.hid (HB.out.trans ((undrew0 b2).mono HB.out.size))
      clear b2
      obtain ⟨D, hD⟩ : ∃ D, D = d / g := ⟨_, rfl⟩
      obtain ⟨F, hF⟩ : ∃ F, F = E / g := ⟨_, rfl⟩
      have eD : ((D : Nat) : Int) = (d : Int) / (g : Int) := by rw [hD]; exact Int.natCast_ediv _ _
      have eF : ((F : Nat) : Int) = (E : Int) / (g : Int) := by rw [hF]; exact Int.natCast_ediv _ _
      rw [← hD] at gd dq1
      rw [← hF] at gE
      have T1 := fun w => times_walk D E (by omega) (by omega) w
      have T2 := fun w => times_walk n F (by omega) (by omega) w
      have T3 := fun w => times_walk G D (by omega) (by omega) w
      rw [eD] at T1 T3
      rw [eF] at T2
      have LS : Hid (loadS (n, d) ⟨E, G, rk⟩ = if 4611686018427387904 < D * E ∨ 4611686018427387904 < n * F ∨ 4611686018427387904 < G * D ∨ 4611686018427387904 < n * F + G * D then none
          else some ((n * F + G * D) / Nat.gcd (D * E) (n * F + G * D), (D * E) / Nat.gcd (D * E) (n * F + G * D))) := Lib.hid (by rw [loadS_eq, ← HG.out, ← hD, ← hF])
      have DE : Hid (1 ≤ D * E) := Lib.hid (Nat.mul_pos dq1 (by omega))
      obtain ⟨q1, hq1⟩ : ∃ q, q = D * E := ⟨_, rfl⟩
      obtain ⟨q2, hq2⟩ : ∃ q, q = n * F := ⟨_, rfl⟩
      obtain ⟨q3, hq3⟩ : ∃ q, q = G * D := ⟨_, rfl⟩
      rw [← hq1, ← hq2, ← hq3] at LS
      rw [← hq1] at DE T1
      rw [← hq2] at T2
      rw [← hq3] at T3
      obtain ⟨r1, hr1⟩ : ∃ r, r = q1 % 18446744073709551616 := ⟨_, rfl⟩
      obtain ⟨r2, hr2⟩ : ∃ r, r = q2 % 18446744073709551616 := ⟨_, rfl⟩
      obtain ⟨r3, hr3⟩ : ∃ r, r = q3 % 18446744073709551616 := ⟨_, rfl⟩
      obtain ⟨b1, hb1⟩ : ∃ b, b = decide (q1 ≤ 4611686018427387904) := ⟨_, rfl⟩
      obtain ⟨b2, hb2⟩ : ∃ b, b = decide (q2 ≤ 4611686018427387904) := ⟨_, rfl⟩
      obtain ⟨b3, hb3⟩ : ∃ b, b = decide (q3 ≤ 4611686018427387904) := ⟨_, rfl⟩
      rw [← hr1, ← hb1] at T1
      rw [← hr2, ← hb2] at T2
      rw [← hr3, ← hb3] at T3
      have TT1 := Lib.hid T1
      have TT2 := Lib.hid T2
      have TT3 := Lib.hid T3
      have Q1 := Lib.hid (And.intro hr1 hb1)
      have Q2 := Lib.hid (And.intro hr2 hb2)
      have Q3 := Lib.hid (And.intro hr3 hb3)
      clear hr1 hr2 hr3 hb1 hb2 hb3
      have z1 : ¬ (g : Int) = 0 := by omega
      have z2 : (0 : Int) < g := by omega
      have z3 : IntKind.u64.wrap ((d : Int) / (g : Int)) = (d : Int) / (g : Int) := by rw [← eD, IntKind.wrap_u64]; omega
      have z4 : IntKind.u64.wrap ((E : Int) / (g : Int)) = (E : Int) / (g : Int) := by rw [← eF, IntKind.wrap_u64]; omega
      clear HB hD hF eD eF T1 T2 T3 hq1 hq2 hq3 GW1 c0 c1 p0 dq1 gd gE e1 e2 g1 g2 P
      go_wp2_with fail
      refine (TT1.out _).mono ?_
      rintro e w' ⟨rfl, rfl⟩
      go_wp2_with fail
      refine (TT2.out _).mono ?_
      rintro e w' ⟨rfl, rfl⟩
      go_wp2_with fail
      refine (TT3.out _).mono ?_
      rintro e w' ⟨rfl, rfl⟩
      clear TT1 TT2 TT3 z1 z2 z3 z4
      by_cases hall : b1 = true ∧ b2 = true ∧ b3 = true
      · obtain ⟨rfl, rfl, rfl⟩ := hall
        have s1 : q1 ≤ 4611686018427387904 := of_decide_eq_true Q1.out.2.symm
        have s2 : q2 ≤ 4611686018427387904 := of_decide_eq_true Q2.out.2.symm
        have s3 : q3 ≤ 4611686018427387904 := of_decide_eq_true Q3.out.2.symm
        obtain rfl : r1 = q1 := by have := Q1.out.1; omega
        obtain rfl : r2 = q2 := by have := Q2.out.1; omega
        obtain rfl : r3 = q3 := by have := Q3.out.1; omega
        clear Q1 Q2 Q3
        by_cases hsum : r2 + r3 ≤ 4611686018427387904
        · have hs : (r2 : Int) + (r3 : Int) ≤ 4611686018427387904 := by omega
          obtain ⟨h2, hh2⟩ : ∃ h, h = Nat.gcd r1 (r2 + r3) := ⟨_, rfl⟩
          have GW := fun w => gcd_walk r1 (r2 + r3) (by omega) (by omega) w
          rw [← hh2] at GW
          rw [show ((r2 + r3 : Nat) : Int) = (r2 : Int) + (r3 : Int) from by omega] at GW
          have GW1 := Lib.hid GW
          have hp : 0 < h2 := by rw [hh2]; exact Nat.gcd_pos_of_pos_left _ DE.out
          have z1 : ¬ (h2 : Int) = 0 := by omega
          have z2 : (0 : Int) < h2 := by omega
          have y1 : (r2 + r3) / h2 ≤ r2 + r3 := Nat.div_le_self _ _
          have y2 : r1 / h2 ≤ r1 := Nat.div_le_self _ _
          have y3 : 1 ≤ r1 / h2 := Nat.div_pos (by rw [hh2]; exact Nat.le_of_dvd DE.out (Nat.gcd_dvd_left _ _)) hp
          have NX := Lib.hid (HR.out.next (n' := (r2 + r3) / h2) (d' := r1 / h2) HX.out (by simp only; rw [LS.out, if_neg (by omega), ← hh2]) (by omega) y3 (by omega))
          have e3 : (((r2 + r3) / h2 : Nat) : Int) = ((r2 : Int) + (r3 : Int)) / (h2 : Int) := by rw [Int.natCast_ediv, Int.natCast_add]
          have e4 : ((r1 / h2 : Nat) : Int) = (r1 : Int) / (h2 : Int) := Int.natCast_ediv _ _
          have w3 : IntKind.u64.wrap (((r2 : Int) + (r3 : Int)) / (h2 : Int)) = ((r2 : Int) + (r3 : Int)) / (h2 : Int) := by rw [← e3]; exact wrapN _ (by omega)
          have w4 : IntKind.u64.wrap ((r1 : Int) / (h2 : Int)) = (r1 : Int) / (h2 : Int) := by rw [← e4]; exact wrapN _ (by omega)
          have E3 := Lib.hid e3
          have E4 := Lib.hid e4
          clear e3 e4 GW hh2 y1 y2 y3 hsum LS
          go_wp2_with fail
          refine (GW1.out _).mono ?_
          rintro e w5 ⟨rfl, b5⟩
          have HB5 := Lib.hid (HB2.out.trans (b5.mono HB2.out.size))
          clear b5 GW1 HB2
          go_wp2_with fail
          go_quiet (fail)
          go_wp2_with fail
          go_roundw
          case rel => exact ⟨(r2 + r3) / h2, r1 / h2, k + 1, by rw [E3.out], by rw [E4.out], by go_num, by omega, NX.out, below_drewN HB5.out _⟩
          case measure => simp [intOf]; omega
        · have hs : decide ((r2 : Int) + (r3 : Int) ≤ 4611686018427387904) = false := decide_eq_false (by omega)
          have hs' : (4611686018427387904 : Int) < (r2 : Int) + (r3 : Int) := by omega
          have NO := Lib.hid (HR.out.no HX.out (by simp only; rw [LS.out, if_pos (by omega)]))
          clear hsum LS
          go_wp2_with fail
          go_ret2
          rw [NO.out]
          exact ⟨rfl, HB2.out⟩
      · have NO := Lib.hid (HR.out.no HX.out (by
          simp only
          rw [LS.out, if_pos]
          have a1 := Q1.out.2
          have a2 := Q2.out.2
          have a3 := Q3.out.2
          by_cases s1 : q1 ≤ 4611686018427387904
          · by_cases s2 : q2 ≤ 4611686018427387904
            · by_cases s3 : q3 ≤ 4611686018427387904
              · exact absurd ⟨by rw [a1]; exact decide_eq_true s1, by rw [a2]; exact decide_eq_true s2, by rw [a3]; exact decide_eq_true s3⟩ hall
              · omega
            · omega
          · omega))
        clear LS Q1 Q2 Q3
        cases b1 with
        | false =>
          clear hall
          go_wp2_with fail
          go_ret2
          rw [NO.out]
          exact ⟨rfl, HB2.out⟩
        | true =>
          cases b2 with
          | false =>
            clear hall
            go_wp2_with fail
            go_ret2
            rw [NO.out]
            exact ⟨rfl, HB2.out⟩
          | true =>
            cases b3 with
            | false =>
              clear hall
              go_wp2_with fail
              go_ret2
              rw [NO.out]
              exact ⟨rfl, HB2.out⟩
            | true => exact absurd ⟨rfl, rfl, rfl⟩ hall
    · obtain rfl : k = m := by omega
      have HF := Lib.hid (show loadF (tks l) = (n, d) from by have := HR.out; rw [HM.out] at this; exact this.fin)
      go_wp2_with fail
      go_ret2
      rw [HF.out]
      exact ⟨rfl, HB.out⟩
end Go.Proofs.Ytgdkmakmdomdbaa
