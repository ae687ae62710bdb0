import Derived.Test.YtdngkeefbpffcaaFlM
import Derived.Test.YtdngkeefbpffcaaFlS
set_option autoImplicit false
set_option linter.unusedVariables false
namespace Go.Proofs.Ytdngkeefbpffcaa
open Go.RowKit Go.ChangeShapes Go.WideShapes Go.ChangeAt Lk Rs Pl
def grd (n : Int) : Bt := ⟨4621819117588971520, 4602678819172646912, 4652007308841189376, n, 4⟩
structure Ask1 where
  n : Int
  C : List Int
def okA (X : Int) (o : Int) (a : Ask1) : Prop := 1 ≤ a.n ∧ a.n ≤ 1000 ∧ a.C.length ≤ 256 ∧ ∃ d, -o ≤ d ∧ d ≤ o ∧ X % a.n + d ∈ a.C
theorem grd_ok {n : Int} (h1 : 1 ≤ n) (h2 : n ≤ 1000) : chkB (grd n) = 0 := by
  have h3 : chk3 4621819117588971520 4602678819172646912 4652007308841189376 = true := by kernel_rfl
  unfold chkB chk grd
  simp only [h3, if_true]
  unfold chkN
  rw [if_neg (by omega), if_neg (by omega)]
theorem firstE_all {L : List Bt} (h : ∀ t ∈ L, chkB t = 0) : firstE L = 0 := by
  induction L with
  | nil => rfl
  | cons a L ih => unfold firstE; rw [if_pos (h a (by simp)), ih (fun t ht => h t (by simp [ht]))]
theorem mk_yes {E : Nat} {o : Int} {C : List Int} {c k : Int} {x : Nat} (hc : c ∈ C) (h1 : -o ≤ k) (h2 : k ≤ o) (h : (c % E + k) % E = x) : mk E o C x = true := by
  unfold mk
  rw [List.any_eq_true]
  refine ⟨c, hc, ?_⟩
  rw [List.any_eq_true]
  refine ⟨(k + o).toNat, List.mem_range.2 (by omega), ?_⟩
  rw [decide_eq_true_eq, Int.toNat_of_nonneg (by omega), show k + o - o = k by omega]
  exact h
/-- a cell told a little wrongly is marked -/
theorem mk_near {n o X d : Int} {C : List Int} (n1 : 1 ≤ n) (o0 : 0 ≤ o) (x0 : 0 ≤ X) (d1 : -o ≤ d) (d2 : d ≤ o) (hc : X % n + d ∈ C) : mk n.toNat (min o n) C (X.toNat % n.toNat) = true := by
  have en : ((n.toNat : Nat) : Int) = n := Int.toNat_of_nonneg (by omega)
  have ex : ((X.toNat % n.toNat : Nat) : Int) = X % n := by rw [Int.natCast_emod, en, Int.toNat_of_nonneg x0]
  by_cases hon : o ≤ n
  · rw [show min o n = o by omega]
    refine mk_yes hc (k := -d) (by omega) (by omega) ?_
    rw [en, ex, Int.emod_add_emod, show X % n + d + -d = X % n by omega, Int.emod_emod_of_dvd _ (Int.dvd_refl n)]
  · rw [show min o n = n by omega]
    refine mk_yes hc (k := (-d) % n) (by have := Int.emod_nonneg (-d) (b := n) (by omega); omega) (by have := Int.emod_lt_of_pos (-d) (b := n) (by omega); omega) ?_
    rw [en, ex, Int.emod_add_emod, Int.add_emod_emod, show X % n + d + -d = X % n by omega, Int.emod_emod_of_dvd _ (Int.dvd_refl n)]
/-- Resolve's answer where nothing is refused -/
theorem asked0 {L : List Ask1} {o : Int} {M : Nat} (h8 : L.length ≤ 8) (o0 : 0 ≤ o) (hM : M ≤ 65536) (h : ∀ a ∈ L, 1 ≤ a.n ∧ a.n ≤ 1000 ∧ a.C.length ≤ 256) :
    resW (L.map fun a => grd a.n) (L.map (·.C)) o M = (resL (hitR (L.map fun a => grd a.n) (L.map (·.C)) o) M, 0) := by
  have l1 : longC ((L.map (·.C)).take (min (L.map fun a => grd a.n).length (L.map (·.C)).length)) = false := by
    unfold longC
    rw [List.any_eq_false]
    intro C hC
    obtain ⟨a, ha, rfl⟩ := List.mem_map.1 (List.mem_of_mem_take hC)
    have := (h a ha).2.2
    simp; omega
  have l2 : firstE ((L.map fun a => grd a.n).take (min (L.map fun a => grd a.n).length (L.map (·.C)).length)) = 0 := firstE_all fun t ht => by
    obtain ⟨a, ha, rfl⟩ := List.mem_map.1 (List.mem_of_mem_take ht)
    exact grd_ok (h a ha).1 (h a ha).2.1
  unfold resW
  rw [if_neg (by simp; omega), if_neg (by rw [l1]; simp), if_neg (by rw [l2]; simp), if_neg (by omega), if_neg (by omega), Int.toNat_natCast]
  have := resL_le (hitR (L.map fun a => grd a.n) (L.map (·.C)) o) M
  rw [if_neg (by omega)]
theorem asked {L : List Ask1} {X o : Int} {M : Nat} (x0 : 0 ≤ X) (x1 : X < M) (o0 : 0 ≤ o) (h : ∀ a ∈ L, okA X o a) : X ∈ resL (hitR (L.map fun a => grd a.n) (L.map (·.C)) o) M := by
  refine mem_resL.2 ⟨X.toNat, by omega, by omega, ?_⟩
  unfold hitR
  rw [List.all_eq_true]
  intro p hp
  obtain ⟨j, hj, rfl⟩ := List.mem_iff_getElem.1 hp
  simp only [List.length_zip, List.length_map, Nat.min_self] at hj
  obtain ⟨n1, n2, n3, d, d1, d2, hc⟩ := h L[j] (List.getElem_mem hj)
  simp only [List.getElem_zip, List.getElem_map]
  exact mk_near n1 o0 x0 d1 d2 hc
theorem resL_sorted (h : Nat → Bool) : ∀ (k i : Nat) (x y : Int), (resL h k)[i]? = some x → (resL h k)[i + 1]? = some y → x < y
  | 0, i, x, y, h1, h2 => by simp [resL] at h1
  | k + 1, i, x, y, h1, h2 => by
    by_cases e : h k = true
    · rw [resL_yes e] at h1 h2
      have l := (List.getElem?_eq_some_iff.1 h2).1
      simp only [List.length_append, List.length_cons, List.length_nil] at l
      rw [List.getElem?_append_left (by omega)] at h1
      by_cases e2 : i + 1 < (resL h k).length
      · rw [List.getElem?_append_left e2] at h2
        exact resL_sorted h k i x y h1 h2
      · rw [List.getElem?_append_right (by omega), show i + 1 - (resL h k).length = 0 by omega] at h2
        simp only [List.getElem?_cons_zero, Option.some.injEq] at h2
        obtain ⟨j, j1, rfl, _⟩ := mem_resL.1 (List.mem_of_getElem? h1)
        omega
    · rw [resL_no (by simpa using e)] at h1 h2
      exact resL_sorted h k i x y h1 h2
theorem resL_bd {h : Nat → Bool} {k : Nat} {x : Int} (hx : x ∈ resL h k) : 0 ≤ x ∧ x < k := by
  obtain ⟨j, j1, rfl, _⟩ := mem_resL.1 hx; omega
structure Ce where
  v : Value
  C : List Int
def rT (t : Ce) : Rw := ⟨2, 1, t.C.length, t.v, rints t.C⟩
def btL (t : Bt) : List Value := [.float .f64 t.c, .float .f64 t.v, .float .f64 t.r, .int .i64 t.e, .int .i64 t.n]
def flatB (L : List Ask1) : List Value := L.flatMap fun a => btL (grd a.n)
def rB (v : Value) (L : List Ask1) : Rw := ⟨24, 5, L.length, v, flatB L⟩
def rC (v : Value) (T : List Ce) : Rw := ⟨39, 1, T.length, v, T.map (·.v)⟩
def rI (v : Value) (M : List Int) : Rw := ⟨2, 1, M.length, v, rints M⟩
theorem flatB_len (L : List Ask1) : (flatB L).length = L.length * 5 := by
  unfold flatB; rw [List.length_flatMap]
  induction L with
  | nil => rfl
  | cons a l ih => rw [List.map_cons, List.sum_cons, List.length_cons, ih]; simp only [btL, List.length_cons, List.length_nil]; omega
theorem flatB_get {L : List Ask1} {j : Nat} {a : Ask1} (h : L[j]? = some a) {q : Nat} {u : Value} (hu : (btL (grd a.n))[q]? = some u) : (flatB L)[j * 5 + q]? = some u := by
  induction L generalizing j with
  | nil => simp at h
  | cons b L ih =>
    have e : flatB (b :: L) = btL (grd b.n) ++ flatB L := by simp [flatB]
    rw [e]
    have hq : q < 5 := by have := (List.getElem?_eq_some_iff.1 hu).1; simpa [btL] using this
    cases j with
    | zero =>
      simp only [List.getElem?_cons_zero, Option.some.injEq] at h
      subst h
      rw [List.getElem?_append_left (by simp [btL]; omega), ← hu]; simp
    | succ j =>
      rw [List.getElem?_cons_succ] at h
      rw [List.getElem?_append_right (by simp [btL]; omega)]
      rw [show (j + 1) * 5 + q - (btL (grd b.n)).length = j * 5 + q by simp [btL]; omega]
      exact ih h
theorem flatB_snoc (L : List Ask1) (a : Ask1) : flatB (L ++ [a]) = flatB L ++ btL (grd a.n) := by simp [flatB]
theorem bt_own {w : World} {B n : Nat} {v : Value} {L : List Ask1} (h : w.ownsRow B 24 5 v n (flatB L)) (hn : ∀ a ∈ L, 1 ≤ a.n ∧ a.n ≤ 1000) : ∃ a cap, v = .slice a n cap ∧ SBt w a n cap (L.map fun a => grd a.n) := by
  have hl := h.1
  rw [flatB_len] at hl
  have ok : ∀ t ∈ L.map fun a => grd a.n, BtOk t := fun t ht => by
    obtain ⟨a, ha, rfl⟩ := List.mem_map.1 ht
    have := hn a ha
    exact ⟨by simp only [grd]; omega, by simp only [grd]; omega, by simp only [grd]; omega, by simp only [grd]; omega⟩
  rcases h.2 with ⟨rfl, h0⟩ | ⟨g, cap, cur, rfl, hB, hb, h1, h2, _, h3⟩
  · subst h0; exact ⟨none, 0, rfl, by rw [List.length_map]; omega, Nat.le_refl _, by omega, .inl rfl, ok⟩
  · refine ⟨_, cap, rfl, by rw [List.length_map]; omega, h1, by unfold maxLen at h2; omega, .inr ⟨g, 0, rfl, (Array.getElem?_eq_some_iff.1 hb).1, fun j t ht => ?_⟩, ok⟩
    rw [List.getElem?_map, Option.map_eq_some_iff] at ht
    obtain ⟨a, ha, rfl⟩ := ht
    have hj := (List.getElem?_eq_some_iff.1 ha).1
    have get : ∀ q u, q < 5 → (btL (grd a.n))[q]? = some u → w.cell? ⟨g, 0 + j * 5 + q, none⟩ = some u := fun q u hq hu => by
      rw [mcell hb]
      have := flatB_get ha hu
      rw [← h3, List.getElem?_take] at this
      rw [if_pos (by omega)] at this
      rw [← this]; simp
    exact ⟨get 0 _ (by omega) rfl, get 1 _ (by omega) rfl, get 2 _ (by omega) rfl, get 3 _ (by omega) rfl, get 4 _ (by omega) rfl⟩
theorem rints_at {l : List Int} {j : Nat} {x : Int} (h : l[j]? = some x) : (rints l)[j]? = some (.int .i64 x) := by unfold rints; rw [List.getElem?_map, h]; rfl
theorem sn_own {w : World} {B n : Nat} {v : Value} {L : List Int} (h : w.ownsRow B 2 1 v n (rints L)) : ∃ a cap, v = .slice a n cap ∧ SN w a n cap L := by
  have hl := h.1
  unfold rints at hl
  rw [List.length_map] at hl
  rcases h.2 with ⟨rfl, h0⟩ | ⟨g, cap, cur, rfl, hB, hb, h1, h2, _, h3⟩
  · subst h0; exact ⟨none, 0, rfl, by omega, Nat.le_refl _, by omega, .inl rfl⟩
  · refine ⟨_, cap, rfl, by omega, h1, by unfold maxLen at h2; omega, .inr ⟨g, 0, rfl, (Array.getElem?_eq_some_iff.1 hb).1, fun j x hx => ?_⟩⟩
    have hj := (List.getElem?_eq_some_iff.1 hx).1
    rw [mcell hb]
    have := rints_at hx
    rw [← h3, List.getElem?_take, if_pos (by omega)] at this
    rw [← this]; simp
theorem sc_own {w wr : World} {v : Value} {T : List Ce} (hc : wr.ownsRow w.heap.size 39 1 v T.length (T.map (·.v))) (ht : ∀ t ∈ T, wr.ownsRow w.heap.size 2 1 t.v t.C.length (rints t.C)) : ∃ a cap, v = .slice a T.length cap ∧ SC wr a T.length cap (T.map (·.C)) := by
  rcases hc.2 with ⟨rfl, h0⟩ | ⟨g, cap, cur, rfl, hB, hb, h1, h2, _, h3⟩
  · rw [h0]; exact ⟨none, 0, rfl, by rw [List.length_map]; omega, Nat.le_refl _, by omega, .inl rfl⟩
  · refine ⟨_, cap, rfl, by rw [List.length_map], h1, by unfold maxLen at h2; omega, .inr ⟨g, 0, rfl, (Array.getElem?_eq_some_iff.1 hb).1, fun j C hC => ?_⟩⟩
    rw [List.getElem?_map, Option.map_eq_some_iff] at hC
    obtain ⟨t, ht1, rfl⟩ := hC
    have hj := (List.getElem?_eq_some_iff.1 ht1).1
    obtain ⟨a', c', hv, hs⟩ := sn_own (ht t (List.mem_of_getElem? ht1))
    refine ⟨a', c', ?_, hs⟩
    rw [← hv, mcell hb]
    have e : (T.map (·.v))[j]? = some t.v := by rw [List.getElem?_map, ht1]; rfl
    rw [← h3, List.getElem?_take, if_pos (by omega)] at e
    rw [← e]; simp
theorem rB_snoc (v : Value) (L : List Ask1) (a : Ask1) : rB v (L ++ [a]) = ⟨24, 5, L.length + 1, v, flatB L ++ btL (grd a.n)⟩ := by unfold rB; rw [flatB_snoc, List.length_append]; rfl
theorem rC_snoc (v : Value) (T : List Ce) (t : Ce) : rC v (T ++ [t]) = ⟨39, 1, T.length + 1, v, T.map (·.v) ++ [t.v]⟩ := by unfold rC; rw [List.map_append, List.length_append]; rfl
theorem rI_snoc (v : Value) (M : List Int) (x : Int) : rI v (M ++ [x]) = ⟨2, 1, M.length + 1, v, rints M ++ [.int .i64 x]⟩ := by unfold rI; rw [rints_snoc, List.length_append]; rfl
theorem rT_snoc (v : Value) (D : List Int) (x : Int) : rT ⟨v, D ++ [x]⟩ = ⟨2, 1, D.length + 1, v, rints D ++ [.int .i64 x]⟩ := by unfold rT; simp only; rw [rints_snoc, List.length_append]; rfl
theorem bt_cells {w : World} {g : Nat} {n : Int} {ty : TypeId} (h : w.heap[g]? = some (.cells #[.float .f64 4621819117588971520, .float .f64 4602678819172646912, .float .f64 4652007308841189376, .int .i64 n, .int .i64 4] ty (0, 0))) : ∀ (j : Nat) (u : Value), (btL (grd n))[j]? = some u → w.cell? ((⟨g, 0, none⟩ : Addr).add j) = some u := by
  intro j u hu
  rw [Addr.add_lit]
  simp only [World.cell?, h, Nat.zero_add]
  simpa [btL, grd] using hu
theorem bt_one (n : Int) : ∀ u ∈ btL (grd n), u.oneCell' = true := by
  intro u hu
  simp only [btL, List.mem_cons, List.not_mem_nil, or_false] at hu
  rcases hu with rfl | rfl | rfl | rfl | rfl <;> rfl
theorem v_cells {w : World} {g : Nat} {x : Value} {ty : TypeId} (h : w.heap[g]? = some (.cells #[x] ty (0, 0))) : ∀ (j : Nat) (u : Value), [x][j]? = some u → w.cell? ((⟨g, 0, none⟩ : Addr).add j) = some u := by
  intro j u hu
  rw [Addr.add_lit]
  simp only [World.cell?, h, Nat.zero_add]
  simpa using hu
theorem v_one {a : Option Addr} {n c : Nat} : ∀ u ∈ [Value.slice a n c], u.oneCell' = true := by
  intro u hu
  rw [List.mem_singleton] at hu
  subst hu; rfl
theorem rs_bt_info : (Try.prog.info? 24).map (fun i => (i.zero.map (fun z => z.cells.size), i.size, i.bytes)) = some (some 5, 5, 40) := by kernel_rfl
theorem rs_si_info : (Try.prog.info? 39).map (fun i => (i.zero.map (fun z => z.cells.size), i.size, i.bytes)) = some (some 1, 1, 24) := by kernel_rfl
/-- modulo, from 0 on -/
theorem mod_walk (x m : Int) (h1 : 1 ≤ m) (h2 : m ≤ 1000000) (w : World) : Calls Try.prog 18 #[.int .i64 x, .int .i64 m] w (fun e w' => e = .returned (.int .i64 (x % m)) ∧ w = w') := by
  have t1 := tmb x m (by omega)
  have N := Lib.hid (fun h => tm_neg (x := x) (m := m) (by omega) h)
  have P := Lib.hid (fun h => tm_pos (x := x) (m := m) (by omega) h)
  generalize hy : x.tmod m = y at *
  obtain ⟨r, hr⟩ : ∃ r, r = x % m := ⟨_, rfl⟩
  rw [← hr] at N P ⊢
  clear hr
  by_cases h0 : y < 0
  · have e := Lib.hid (N.out h0)
    go_enter Try.func18, Try.ntmps18
    go_wp2_with fail
    go_ret
    exact ⟨by rw [← e.out]; rfl, rfl⟩
  · have e := Lib.hid (P.out h0)
    go_enter Try.func18, Try.ntmps18
    go_wp2_with fail
    go_ret
    exact ⟨by rw [← e.out]; rfl, rfl⟩
/-! lists handed in -/
set_option maxRecDepth 100000 in
theorem sn_rd {W : World} {cs : List Value} (h2 : Rd Try.prog W 39 cs) : ∃ a n cap M, cs = [.slice a n cap] ∧ SN W a n cap M ∧ ∀ x ∈ M, -9223372036854775808 ≤ x ∧ x ≤ 9223372036854775807 := by
  have und : Try.prog.underlying 39 = some (.slice 2) := by kernel_rfl
  obtain ⟨ao, n1, c1, hv, g1, g2, g3⟩ := rd_row (P := Try.prog) (t := 39) (e := 2) (n := 1) und (by kernel_rfl) (by decide) h2
  rcases g3 with h0 | ⟨b, off, hb, rfl, hc⟩
  · exact ⟨ao, n1, c1, [], hv, ⟨by rw [h0]; rfl, g1, by unfold maxLen at g2; omega, .inl h0⟩, fun x hx => by simp at hx⟩
  · have key : ∀ i, ∃ x : Int, (i < n1 → W.cell? ⟨b, off + i, none⟩ = some (.int .i64 x)) ∧ -9223372036854775808 ≤ x ∧ x ≤ 9223372036854775807 := by
      intro i
      by_cases hi : i < n1
      · obtain ⟨cs, hl, hcell, hr⟩ := hc i hi
        obtain ⟨x, rfl, x1, x2⟩ := rd_int Try.underlying2 hr
        refine ⟨x, fun _ => ?_, x1, x2⟩
        have := hcell 0 (by decide)
        rwa [show i * 1 + 0 = i by omega] at this
      · exact ⟨0, fun h => absurd h hi, by decide, by decide⟩
    obtain ⟨f, hf⟩ := Classical.axiomOfChoice key
    refine ⟨_, n1, c1, (List.range n1).map f, hv, ⟨by simp, g1, by unfold maxLen at g2; omega, .inr ⟨b, off, rfl, hb, fun j x hx => ?_⟩⟩, fun x hx => ?_⟩
    · have hj : j < n1 := by have := (List.getElem?_eq_some_iff.1 hx).1; simpa using this
      rw [List.getElem?_map, List.getElem?_range hj] at hx
      cases hx
      exact (hf j).1 hj
    · obtain ⟨j, _, rfl⟩ := List.mem_map.1 hx
      exact (hf j).2
set_option maxRecDepth 100000 in
theorem sn_arg {W : World} {base : Nat} {v : Value} (h1 : Value.okWide Try.prog W .any base 39 v) (h2 : Rd Try.prog W 39 v.cells.toList) : ∃ a n cap M, v = .slice a n cap ∧ SN W a n cap M ∧ ∀ x ∈ M, -9223372036854775808 ≤ x ∧ x ≤ 9223372036854775807 := by
  have und : Try.prog.underlying 39 = some (.slice 2) := by kernel_rfl
  obtain ⟨a, n, cap, M, hv, h⟩ := sn_rd h2
  obtain ⟨a1, n1, c1, rfl⟩ := Go.WideShapes.okWide_slice und h1
  obtain ⟨rfl, rfl, rfl⟩ : a1 = a ∧ n1 = n ∧ c1 = cap := by simpa [Value.cells] using hv
  exact ⟨_, _, _, M, rfl, h⟩
def okI (L : List Int) : Prop := ∀ x ∈ L, -9223372036854775808 ≤ x ∧ x ≤ 9223372036854775807
set_option maxRecDepth 100000 in
theorem sc_arg {W : World} {base : Nat} {v : Value} (h1 : Value.okWide Try.prog W .any base 36 v) (h2 : Rd Try.prog W 36 v.cells.toList) : ∃ a n cap LL, v = .slice a n cap ∧ SC W a n cap LL ∧ ∀ L ∈ LL, okI L := by
  have und : Try.prog.underlying 36 = some (.slice 39) := by kernel_rfl
  obtain ⟨ao, len, cap, hv, g1, g2, g3⟩ := rd_row (P := Try.prog) (t := 36) (e := 39) (n := 1) und (by kernel_rfl) (by decide) h2
  obtain ⟨a1, n1, c1, rfl⟩ := Go.WideShapes.okWide_slice und h1
  obtain ⟨rfl, rfl, rfl⟩ : a1 = ao ∧ n1 = len ∧ c1 = cap := by simpa [Value.cells] using hv
  rcases g3 with h0 | ⟨b, off, hb, rfl, hc⟩
  · exact ⟨a1, n1, c1, [], rfl, ⟨by rw [h0]; rfl, g1, by unfold maxLen at g2; omega, .inl h0⟩, fun x hx => by simp at hx⟩
  · have key : ∀ i, ∃ L : List Int, (i < n1 → ∃ a' c', W.cell? ⟨b, off + i, none⟩ = some (.slice a' L.length c') ∧ SN W a' L.length c' L) ∧ okI L := by
      intro i
      by_cases hi : i < n1
      · obtain ⟨cs, hl, hcell, hr⟩ := hc i hi
        obtain ⟨a', n', c', M, rfl, sn, bd⟩ := sn_rd hr
        have e := sn.len
        subst e
        refine ⟨M, fun _ => ⟨a', c', ?_, sn⟩, bd⟩
        have := hcell 0 (by decide)
        rwa [show i * 1 + 0 = i by omega] at this
      · exact ⟨[], fun h => absurd h hi, fun x hx => by simp at hx⟩
    obtain ⟨f, hf⟩ := Classical.axiomOfChoice key
    refine ⟨_, n1, c1, (List.range n1).map f, rfl, ⟨by simp, g1, by unfold maxLen at g2; omega, .inr ⟨b, off, rfl, hb, fun j C hx => ?_⟩⟩, fun L hL => ?_⟩
    · have hj : j < n1 := by have := (List.getElem?_eq_some_iff.1 hx).1; simpa using this
      rw [List.getElem?_map, List.getElem?_range hj] at hx
      cases hx
      exact (hf j).1 hj
    · obtain ⟨j, _, rfl⟩ := List.mem_map.1 hL
      exact (hf j).2
end Go.Proofs.Ytdngkeefbpffcaa
