import Derived.Test.YteejnfjlfoeblaaRsS
set_option autoImplicit false
set_option linter.unusedVariables false
namespace Go.Proofs.Yteejnfjlfoeblaa
open Go.RowKit Lk Rs
/-! numbers counted round -/
def szE (m x : Int) : Int := x.tmod m % m + 1
theorem szE_bd (m x : Int) (h : 1 ≤ m) : 1 ≤ szE m x ∧ szE m x ≤ m := by
  unfold szE
  have := Int.emod_nonneg (x.tmod m) (b := m) (by omega)
  have := Int.emod_lt_of_pos (x.tmod m) (b := m) (by omega)
  omega
set_option maxHeartbeats 1000000 in
theorem sz_walk (n m : Int) (h1 : 1 ≤ m) (h2 : m ≤ 1000000) (w : World) : Calls Try.prog 6 #[.int .i64 n, .int .i64 m] w (fun e w' => e = .returned (.int .i64 (szE m n)) ∧ w = w') := by
  have t1 := tmb n m (by omega)
  have E1 := szE_bd m n h1
  have FE := Lib.hid (show szE m n = n.tmod m % m + 1 from rfl)
  unfold szE at E1
  generalize szE m n = q at FE ⊢
  generalize hq1 : n.tmod m = x1 at *
  generalize hq2 : x1 % m = x2 at *
  rw [FE.out]
  clear FE
  go_enter Try.func6, Try.ntmps6
  go_wp2_with fail
  go_ret
  exact ⟨rfl, rfl⟩
/-! what is asked -/
def grd (n : Int) : Bt := ⟨4607182418800017408, 4602678819172646912, 4652007308841189376, n, 1⟩
/-- the first k: moduli, what each adds, its cells -/
structure Ask1 where
  n : Int
  C : List Int
def aN (ev : Int) : Int := szE 1000 ev
def okA (X : Int) (o : Int) (a : Ask1) : Prop := 1 ≤ a.n ∧ a.n ≤ 1000 ∧ a.C.length ≤ 2 ∧ ∃ d, -o ≤ d ∧ d ≤ o ∧ X % a.n + d ∈ a.C
theorem grd_ok {n : Int} (h1 : 1 ≤ n) (h2 : n ≤ 1000) : chkB (grd n) = 0 := by
  have h3 : chk3 4607182418800017408 4602678819172646912 4652007308841189376 = true := by kernel_rfl
  unfold chkB chk grd
  simp only [h3, if_true]
  unfold chkN
  rw [if_neg (by omega), if_neg (by omega)]
theorem firstE_all {L : List Bt} (h : ∀ t ∈ L, chkB t = 0) : firstE L = 0 := by
  induction L with
  | nil => rfl
  | cons a L ih => unfold firstE; rw [if_pos (h a (by simp)), ih (fun t ht => h t (by simp [ht]))]
theorem mk_yes {E : Nat} {o : Int} {C : List Int} {c k : Int} {x : Nat} (hc : c ∈ C) (h1 : -o ≤ k) (h2 : k ≤ o) (h : (c % E + k) % E = x) : mk E o C x = true := by
  unfold mk
  rw [List.any_eq_true]
  refine ⟨c, hc, ?_⟩
  rw [List.any_eq_true]
  refine ⟨(k + o).toNat, List.mem_range.2 (by omega), ?_⟩
  rw [decide_eq_true_eq, Int.toNat_of_nonneg (by omega), show k + o - o = k by omega]
  exact h
/-- a cell told a little wrongly is marked -/
theorem mk_near {n o X d : Int} {C : List Int} (n1 : 1 ≤ n) (o0 : 0 ≤ o) (x0 : 0 ≤ X) (d1 : -o ≤ d) (d2 : d ≤ o) (hc : X % n + d ∈ C) : mk n.toNat (min o n) C (X.toNat % n.toNat) = true := by
  have en : ((n.toNat : Nat) : Int) = n := Int.toNat_of_nonneg (by omega)
  have ex : ((X.toNat % n.toNat : Nat) : Int) = X % n := by rw [Int.natCast_emod, en, Int.toNat_of_nonneg x0]
  by_cases hon : o ≤ n
  · rw [show min o n = o by omega]
    refine mk_yes hc (k := -d) (by omega) (by omega) ?_
    rw [en, ex, Int.emod_add_emod, show X % n + d + -d = X % n by omega, Int.emod_emod_of_dvd _ (Int.dvd_refl n)]
  · rw [show min o n = n by omega]
    refine mk_yes hc (k := (-d) % n) (by have := Int.emod_nonneg (-d) (b := n) (by omega); omega) (by have := Int.emod_lt_of_pos (-d) (b := n) (by omega); omega) ?_
    rw [en, ex, Int.emod_add_emod, Int.add_emod_emod, show X % n + d + -d = X % n by omega, Int.emod_emod_of_dvd _ (Int.dvd_refl n)]
/-- Resolve tells all that is asked -/
theorem asked {L : List Ask1} {X o : Int} (h8 : L.length ≤ 8) (x0 : 0 ≤ X) (x1 : X < 65536) (o0 : 0 ≤ o) (h : ∀ a ∈ L, okA X o a) :
    resW (L.map fun a => grd a.n) (L.map (·.C)) o 65536 = (resL (hitR (L.map fun a => grd a.n) (L.map (·.C)) o) 65536, 0) ∧ X ∈ resL (hitR (L.map fun a => grd a.n) (L.map (·.C)) o) 65536 := by
  have l1 : longC ((L.map (·.C)).take (min (L.map fun a => grd a.n).length (L.map (·.C)).length)) = false := by
    unfold longC
    rw [List.any_eq_false]
    intro C hC
    obtain ⟨a, ha, rfl⟩ := List.mem_map.1 (List.mem_of_mem_take hC)
    have := (h a ha).2.2.1
    simp; omega
  have l2 : firstE ((L.map fun a => grd a.n).take (min (L.map fun a => grd a.n).length (L.map (·.C)).length)) = 0 := firstE_all fun t ht => by
    obtain ⟨a, ha, rfl⟩ := List.mem_map.1 (List.mem_of_mem_take ht)
    exact grd_ok (h a ha).1 (h a ha).2.1
  constructor
  · unfold resW
    rw [if_neg (by simp; omega), if_neg (by rw [l1]; simp), if_neg (by rw [l2]; simp), if_neg (by omega), if_neg (by omega)]
    have := resL_le (hitR (L.map fun a => grd a.n) (L.map (·.C)) o) 65536
    rw [if_neg (by show ¬ 65536 < (resL _ 65536).length; omega)]; rfl
  · refine mem_resL.2 ⟨X.toNat, by omega, by omega, ?_⟩
    unfold hitR
    rw [List.all_eq_true]
    intro p hp
    obtain ⟨j, hj, rfl⟩ := List.mem_iff_getElem.1 hp
    simp only [List.length_zip, List.length_map, Nat.min_self] at hj
    obtain ⟨n1, n2, n3, d, d1, d2, hc⟩ := h L[j] (List.getElem_mem hj)
    simp only [List.getElem_zip, List.getElem_map]
    exact mk_near n1 o0 x0 d1 d2 hc
theorem resL_sorted (h : Nat → Bool) : ∀ (k i : Nat) (x y : Int), (resL h k)[i]? = some x → (resL h k)[i + 1]? = some y → x < y
  | 0, i, x, y, h1, h2 => by simp [resL] at h1
  | k + 1, i, x, y, h1, h2 => by
    by_cases e : h k = true
    · rw [resL_yes e] at h1 h2
      have l := (List.getElem?_eq_some_iff.1 h2).1
      simp only [List.length_append, List.length_cons, List.length_nil] at l
      rw [List.getElem?_append_left (by omega)] at h1
      by_cases e2 : i + 1 < (resL h k).length
      · rw [List.getElem?_append_left e2] at h2
        exact resL_sorted h k i x y h1 h2
      · rw [List.getElem?_append_right (by omega), show i + 1 - (resL h k).length = 0 by omega] at h2
        simp only [List.getElem?_cons_zero, Option.some.injEq] at h2
        obtain ⟨j, j1, rfl, _⟩ := mem_resL.1 (List.mem_of_getElem? h1)
        omega
    · rw [resL_no (by simpa using e)] at h1 h2
      exact resL_sorted h k i x y h1 h2
theorem resL_bd {h : Nat → Bool} {k : Nat} {x : Int} (hx : x ∈ resL h k) : 0 ≤ x ∧ x < k := by
  obtain ⟨j, j1, rfl, _⟩ := mem_resL.1 hx; omega
end Go.Proofs.Yteejnfjlfoeblaa
