import Derived.Test.YtgdkmakmdomdbaaPnWd
set_option autoImplicit false
set_option linter.unusedVariables false
namespace Go.Proofs.Ytgdkmakmdomdbaa
open Go.RowKit Lk Pn
/-- a stretch in a box of its own, as a list of one -/
theorem wd_box {B K : Nat} {w0 w : World} {ps : List P1} {rs : List (Value × List Sl)} (h : Wd B K w0 w ps rs) (s : Sl) : Wd B K w0 (w.alloc (.cells (slc s) 42)) ps (rs ++ [(.slice (some ⟨w.heap.size, 0, none⟩) 1 1, [s])]) := by
  have h2 := h.al (.cells (slc s) 42)
  refine h2.add ⟨rfl, .inr ⟨_, 1, slc s, rfl, h.hB, Deep.blk_alloc_new _ _, Nat.le_refl _, by decide, rfl, by simp [slv, slc]⟩⟩ (fun g hg x hx hk => ?_) (fun r hr g hg e => ?_)
  · obtain rfl : w.heap.size = g := Option.some.inj hg
    have := (h.p.all x hx).inS _ hk
    omega
  · obtain rfl : w.heap.size = g := Option.some.inj e
    have := (own_lt (h.own r hr) hg).2
    omega
theorem wd_cell {B K : Nat} {w0 w : World} {ps : List P1} {rs : List (Value × List Sl)} {g c n : Nat} {L : List Sl} (h : Wd B K w0 w ps rs) (hr : (.slice (some ⟨g, 0, none⟩) n c, L) ∈ rs) {j : Nat} {s : Sl} (hj : L[j]? = some s) :
    g < w.heap.size ∧ w.cell? ⟨g, j * 4, none⟩ = some (.int .i64 s.task) ∧ w.cell? ⟨g, j * 4 + 1, none⟩ = some (.int .i64 s.fr) ∧ w.cell? ⟨g, j * 4 + 2, none⟩ = some (.int .i64 s.to) ∧ w.cell? ⟨g, j * 4 + 3, none⟩ = some (.bool s.late) := by
  have ow := h.own _ hr
  have gl := (own_lt ow (g := g) rfl).2
  have get : ∀ q u, (slc s).toList[q]? = some u → w.cell? ⟨g, j * 4 + q, none⟩ = some u := fun q u hu => by
    have := ow.cells (g := g) rfl (j * 4 + q) u (slv_get hj hu)
    rw [Addr.add_lit, Nat.zero_add] at this
    exact this
  exact ⟨gl, get 0 _ rfl, get 1 _ rfl, get 2 _ rfl, get 3 _ rfl⟩
theorem wd_slice {B K : Nat} {w0 w : World} {ps : List P1} {pre : List (Value × List Sl)} {v : Value} {L : List Sl} (h : Wd B K w0 w ps (pre ++ [(v, L)])) (hL : 0 < L.length) : ∃ g c, v = .slice (some ⟨g, 0, none⟩) L.length c ∧ L.length ≤ c ∧ c ≤ 9223372036854775807 := by
  have ow := h.own (v, L) (by simp)
  rcases ow.2 with ⟨_, h0⟩ | ⟨g, cap, cur, e, _, _, h1, h2, _⟩
  · simp only at h0; omega
  · exact ⟨g, cap, e, h1, by unfold maxLen at h2; omega⟩
def fw0 : Pl := newP [⟨1099511627776, 1, 0⟩]
def fw1 : Pl := (untilP fw0 1152921504606846981).1
def fv2 : Pl := (nextP fv1).1
theorem ff_l2 : loadF (tks fv2.l) = (2, 1) := by kernel_rfl
theorem u_len : (⟨1, 0, 1, false⟩ :: uOut 65535 1 : List Sl).length = 65536 := by rw [List.length_cons, uOut_len]
theorem u_get : (⟨1, 0, 1, false⟩ :: uOut 65535 1 : List Sl)[65535]? = some ⟨1, 65535, 65536, false⟩ := by
  rw [show (65535 : Nat) = 65534 + 1 from rfl, List.getElem?_cons_succ, show (65534 + 1 : Nat) = 65535 from rfl, uOut_get 65535 1 65534 (by omega)]
  rfl
theorem wd_one {B p : Nat} {S : Nat → Prop} {w : World} {st : Pl} (h : PS B w S p st) (hB : B ≤ w.heap.size) (hi : Inv 1 st) : Wd B 1 w w [⟨S, p, st⟩] [] :=
  ⟨⟨fun x hx => by obtain rfl := List.mem_singleton.1 hx; exact h, List.pairwise_singleton _ _⟩, fun x hx => by obtain rfl := List.mem_singleton.1 hx; exact hi, fun x hx => by simp at hx, fun x hx => by simp at hx, List.Pairwise.nil, Below.refl _ _, hB⟩
set_option maxRecDepth 100000 in
set_option maxHeartbeats 4000000 in
theorem far_walk (B p : Nat) (S : Nat → Prop) (w : World) (h : PS B w S p u0) (hB : B ≤ w.heap.size) : Calls Try.prog 23 #[.pointer (some ⟨p, 0, none⟩)] w (fun e w' => e = .returned (.bool true) ∧ Below B w w') := by
  have H0 : Hid (Wd B 1 w w [⟨S, p, u0⟩] []) := Lib.hid (wd_one h hB (inv_new (by kernel_rfl)))
  clear h hB
  go_enter Try.func23, Try.ntmps23
  go_wp2_with fail
  refine (wd_until (pre := []) (post := []) (rs := []) H0.out 70000 (by omega) (by omega)).mono ?_
  rintro e w1 ⟨vx, S1, rfl, h⟩
  rw [far_u] at h
  obtain ⟨LX, hLX⟩ : ∃ L : List Sl, L = (⟨1, 0, 1, false⟩ :: uOut 65535 1) := ⟨_, rfl⟩
  obtain ⟨stx, hst⟩ : ∃ st : Pl, st = uS 65536 := ⟨_, rfl⟩
  have h1 : Wd B 1 w w1 [⟨S1, p, stx⟩] ([] ++ [(vx, LX)]) := by rw [hLX, hst]; exact h
  have ln : LX.length = 65536 := by rw [hLX]; exact u_len
  have lg : LX[65535]? = some ⟨1, 65535, 65536, false⟩ := by rw [hLX]; exact u_get
  obtain ⟨gx, cx, rfl, x1, x2⟩ := wd_slice h1 (by omega)
  obtain ⟨M, hM⟩ : ∃ M : Nat, M = LX.length := ⟨_, rfl⟩
  obtain ⟨d, hd⟩ : ∃ d : Nat, d = 65535 := ⟨_, rfl⟩
  rw [← hd] at lg
  rw [← hM] at h1 x1 ⊢
  rw [← hM] at ln
  have hM2 : (M : Int) = 65536 := by omega
  have hd2 : (d : Int) = 65535 := by omega
  obtain ⟨gl, k0, k1, k2, k3⟩ := wd_cell h1 (by simp : (.slice (some ⟨gx, 0, none⟩) M cx, LX) ∈ ([] ++ [(.slice (some ⟨gx, 0, none⟩) M cx, LX)] : List (Value × List Sl))) lg
  simp only at k0 k1 k2 k3
  rw [← hd2] at k1
  rw [← hM2] at k2
  have dM : (d : Int) < (M : Int) := by omega
  have nx : stx.now = (M : Int) := by rw [hst, hM2]; rfl
  have H1 := Lib.hid h1
  clear h h1 hLX hst lg hM H0
  have HM2 := Lib.hid hM2
  have HD2 := Lib.hid hd2
  clear hM2 hd2 hd ln
  go_upto_region 2 with fail
  rw [← HM2.out, ← HD2.out]
  clear HD2
  go_wp2_with fail
  refine (wd_now (pre := []) H1.out).mono ?_
  rintro e w2 ⟨rfl, rfl⟩
  rw [nx]
  have H2 := Lib.hid (H1.out.drop (pre := []) (post := []))
  clear H1
  go_wp2_with fail
  clear gl k0 k1 k2 k3 dM
  refine (wd_new (H2.out.al _) (by omega) _ 2 2 [⟨1099511627776, 1099511627776, 0⟩, ⟨1099511627776, 1099511627776, 1⟩] (ts_two w1 ⟨1099511627776, 1099511627776, 0⟩ ⟨1099511627776, 1099511627776, 1⟩) (by kernel_rfl)).mono ?_
  rintro e w3 ⟨pv, Sv, rfl, h⟩
  have H3 : Hid (Wd B 1 w w3 [⟨S1, p, stx⟩, ⟨Sv, pv, fv0⟩] []) := Lib.hid h
  clear h H2
  go_wp2_with fail
  refine (wd_new (H3.out.al _) (by omega) _ 1 1 [⟨1099511627776, 1, 0⟩] (ts_one w3 ⟨1099511627776, 1, 0⟩) (by kernel_rfl)).mono ?_
  rintro e w4 ⟨pw, Sw, rfl, h⟩
  have H4 : Hid (Wd B 1 w w4 [⟨S1, p, stx⟩, ⟨Sv, pv, fv0⟩, ⟨Sw, pw, fw0⟩] []) := Lib.hid h
  clear h H3
  go_wp2_with fail
  refine (wd_next (pre := [_]) (rs := []) H4.out (by omega) (by omega) (Nat.le_of_ble_eq_true rfl)).mono ?_
  rintro e w5 ⟨Sv1, rfl, h⟩
  rw [show (nextP fv0).2.1 = ⟨1, 0, 1099511627776, false⟩ by rw [ff_a], show (nextP fv0).2.2 = 0 by rw [ff_a]]
  have H5 : Hid (Wd B 1 w (w5.alloc (.cells (slc ⟨1, 0, 1099511627776, false⟩) 42)) [⟨S1, p, stx⟩, ⟨Sv1, pv, fv1⟩, ⟨Sw, pw, fw0⟩] ([] ++ [(.slice (some ⟨w5.heap.size, 0, none⟩) 1 1, [⟨1, 0, 1099511627776, false⟩])])) := Lib.hid (wd_box (rs := []) h ⟨1, 0, 1099511627776, false⟩)
  simp only [slc]
  clear h H4
  go_wp2_with fail
  refine (wd_next (pre := [_]) (rs := [_]) H5.out (by omega) (by omega) (Nat.le_of_ble_eq_true rfl)).mono ?_
  rintro e w6 ⟨Sv2, rfl, h⟩
  rw [show (nextP fv1).2.1 = ⟨0, 1099511627776, 2199023255552, true⟩ by rw [ff_b], show (nextP fv1).2.2 = 0 by rw [ff_b]]
  have H6 : Hid (Wd B 1 w (w6.alloc (.cells (slc ⟨0, 1099511627776, 2199023255552, true⟩) 42)) [⟨S1, p, stx⟩, ⟨Sv2, pv, fv2⟩, ⟨Sw, pw, fw0⟩] [(.slice (some ⟨w5.heap.size, 0, none⟩) 1 1, [⟨1, 0, 1099511627776, false⟩]), (.slice (some ⟨w6.heap.size, 0, none⟩) 1 1, [⟨0, 1099511627776, 2199023255552, true⟩])]) := Lib.hid (wd_box (rs := [_]) h ⟨0, 1099511627776, 2199023255552, true⟩)
  simp only [slc]
  clear h H5
  go_wp2_with fail
  refine (wd_load (pre := [_]) (rs := [_, _]) H6.out (by omega) (by omega)).mono ?_
  rintro e w7 ⟨rfl, h⟩
  rw [ff_l2]
  obtain ⟨l1, a0, a1, a2, a3⟩ := wd_cell h (by simp : (.slice (some ⟨w5.heap.size, 0, none⟩) 1 1, [⟨1, 0, 1099511627776, false⟩]) ∈ ([(.slice (some ⟨w5.heap.size, 0, none⟩) 1 1, [⟨1, 0, 1099511627776, false⟩]), (.slice (some ⟨w6.heap.size, 0, none⟩) 1 1, [⟨0, 1099511627776, 2199023255552, true⟩])] : List (Value × List Sl))) (j := 0) rfl
  obtain ⟨l2, b0, b1, b2, b3⟩ := wd_cell h (by simp : (.slice (some ⟨w6.heap.size, 0, none⟩) 1 1, [⟨0, 1099511627776, 2199023255552, true⟩]) ∈ ([(.slice (some ⟨w5.heap.size, 0, none⟩) 1 1, [⟨1, 0, 1099511627776, false⟩]), (.slice (some ⟨w6.heap.size, 0, none⟩) 1 1, [⟨0, 1099511627776, 2199023255552, true⟩])] : List (Value × List Sl))) (j := 0) rfl
  simp only [Nat.zero_mul, Nat.zero_add] at a0 a1 a2 a3 b0 b1 b2 b3
  have H7 : Hid (Wd B 1 w w7 [⟨S1, p, stx⟩, ⟨Sv2, pv, fv2⟩, ⟨Sw, pw, fw0⟩] []) := Lib.hid ((h.drop (pre := []) (post := [_])).drop (pre := []) (post := []))
  clear h H6
  go_wp2_with fail
  refine (wd_until (pre := [_, _]) (post := []) (rs := []) H7.out 1152921504606846981 (by omega) (by omega)).mono ?_
  rintro e w8 ⟨vc, Sw1, rfl, h⟩
  obtain ⟨LC, hLC⟩ : ∃ L : List Sl, L = (untilP fw0 1152921504606846981).2 := ⟨_, rfl⟩
  have lc : LC.length = 65536 := by rw [hLC]; exact far_w.1
  have lg : LC[1]? = some ⟨0, 1099511627776, 1099511627777, false⟩ := by rw [hLC]; exact far_w.2
  obtain ⟨stw, hsw⟩ : ∃ st : Pl, st = (untilP fw0 1152921504606846981).1 := ⟨_, rfl⟩
  have H8 : Hid (Wd B 1 w w8 [⟨S1, p, stx⟩, ⟨Sv2, pv, fv2⟩, ⟨Sw1, pw, stw⟩] ([] ++ [(vc, LC)])) := Lib.hid (by rw [hLC, hsw]; exact h)
  obtain ⟨gc, cc, rfl, x3, x4⟩ := wd_slice H8.out (by omega)
  have LM : LC.length = M := by have := HM2.out; omega
  rw [LM] at H8 x3 ⊢
  have HG := Lib.hid lg
  clear h H7 hLC hsw lc lg LM a0 a1 a2 a3 b0 b1 b2 b3 l1 l2
  go_wp2_with fail
  refine (wd_until (pre := [_, _]) (post := []) (rs := [_]) H8.out 1152921504606846976 (by omega) (by omega)).mono ?_
  rintro e w9 ⟨vd, Sw2, rfl, h⟩
  obtain ⟨gl, k0, k1, k2, k3⟩ := wd_cell h (by simp : (.slice (some ⟨gc, 0, none⟩) M cc, LC) ∈ ([(.slice (some ⟨gc, 0, none⟩) M cc, LC)] ++ [(vd, (untilP stw 1152921504606846976).2)] : List (Value × List Sl))) HG.out
  simp only at k0 k1 k2 k3
  have H9 := Lib.hid h
  clear h H8
  have M1 : (1 : Int) < (M : Int) := by have := HM2.out; omega
  go_upto_region 14 with fail
  rw [← HM2.out]
  go_wp2_with fail
  go_ret
  exact ⟨rfl, H9.out.b⟩
end Go.Proofs.Ytgdkmakmdomdbaa
