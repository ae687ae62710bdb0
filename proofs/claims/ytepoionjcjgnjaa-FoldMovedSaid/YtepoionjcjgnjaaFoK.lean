import Derived.Test.YtepoionjcjgnjaaFoX
import Derived.Test.YtepoionjcjgnjaaFoC
import Derived.Test.YtepoionjcjgnjaaFlS
import Derived.Deep.OwnRows
set_option autoImplicit false
set_option linter.unusedVariables false
namespace Go.Proofs.Ytepoionjcjgnjaa
open Go.RowKit Lk Fo
def mL (M : List Int) : List Int := M.map fun x => x % 4096 + 1
theorem mL_take {M : List Int} {k : Nat} {x : Int} (h : M[k]? = some x) : mL (M.take (k + 1)) = mL (M.take k) ++ [x % 4096 + 1] := by
  rw [List.take_add_one, h]; simp [mL]
theorem mL_range {M : List Int} : ∀ x ∈ mL M, 1 ≤ x ∧ x ≤ 4096 := by
  intro x hx
  obtain ⟨y, _, rfl⟩ := List.mem_map.1 hx
  omega
theorem sl_owns {w : World} {B n : Nat} {v : Value} {l : List Int} (h : w.ownsRow B 2 1 v n (ints l)) (hs : n ≤ 9223372036854775807) (hr : ∀ x ∈ l, -9223372036854775808 ≤ x ∧ x ≤ 9223372036854775807) : ∃ a cap, v = .slice a n cap ∧ Sl w a n cap l := by
  have h' := h
  have hl : l.length = n := by have := h.1; simpa [ints] using this
  rcases h.2 with ⟨rfl, rfl⟩ | ⟨g, cap, cur, rfl, _, hg, hc, _⟩
  · exact ⟨none, 0, rfl, hl, Nat.le_refl _, by omega, hr, .inl rfl⟩
  · refine ⟨_, cap, rfl, hl, hc, hs, hr, .inr ⟨g, 0, rfl, (Array.getElem?_eq_some_iff.1 hg).1, fun j hj => ?_⟩⟩
    have := h'.cellAt j (by omega)
    rw [Nat.zero_add, this]
    simp [ints, hj]
set_option maxHeartbeats 4000000 in
theorem moduli_walk (a : Option Addr) (n cap : Nat) (M : List Int) (w : World) (s : Sl w a n cap M) : Calls Try.prog 23 #[.slice a n cap] w
    (fun e w' => ∃ v, e = .returned v ∧ w'.ownsRow w.heap.size 2 1 v (min n 5) (ints (mL (M.take 5))) ∧ Below w.heap.size w w') := by
  obtain ⟨I, hi, hz, hsz, hby⟩ := info_parts int_info
  have hl := Lib.hid s.len
  have S := Lib.hid s
  clear s
  go_enter Try.func23, Try.ntmps23
  go_wp2_with fail
  go_loopw [3, 4] (fun v i wr => ∃ k : Nat, k ≤ n ∧ k ≤ 5 ∧ i = .int .i64 k ∧ wr.ownsRow w.heap.size 2 1 v k (ints (mL (M.take k))) ∧ Below w.heap.size w wr) (fun _ i _ => n - (intOf i).toNat)
  case atStart => exact ⟨0, Nat.zero_le _, by omega, rfl, World.ownsRow_nil _ _ _ _, Below.refl _ _⟩
  case round =>
    obtain ⟨k, hk, hk5, rfl, ho, hb⟩ := hrel
    have HB := Lib.hid hb
    have zz := hb.size
    clear hb
    by_cases hlt : k < n
    · have hk64 : (k : Int) < (n : Int) := by omega
      by_cases h5 : k < 5
      · have h5' : (k : Int) < 5 := by omega
        obtain ⟨b1, o1, x, rfl, hb1, e1, d1, r1, r2⟩ := S.out.at (k := k) hlt
        have E := Lib.hid (mL_take e1)
        have D1 : wr.cell? ⟨b1, o1 + k, none⟩ = some (.int .i64 x) := (HB.out.cell (p := ⟨b1, o1 + k, none⟩) hb1).trans d1
        clear d1 e1
        have hx0 := Int.emod_nonneg x (show (4096 : Int) ≠ 0 by omega)
        have hx1 := Int.emod_lt_of_pos x (show (0 : Int) < 4096 by omega)
        have hw := wrap_self (z := x % 4096 + 1) (by omega) (by omega)
        go_wp2_with fail
        refine (lmod_walk x 4096 wr r1 r2 (by omega) (by omega)).mono ?_; rintro e w2 ⟨rfl, rfl⟩
        go_wp2_with (refine wpList_append_own _ rfl (.tmp 15) (.tmp 22) 27 rfl w.heap.size 2 I _ 1 8 und27 hi hz hsz hby rfl (by decide) _ k (ints (mL (M.take k))) rfl (ho.alloc _) ⟨wr.heap.size, 0, none⟩ 1 1 [.int .i64 (x % 4096 + 1)] rfl rfl (new1 wr _) (one1 _) (by simp only [maxLen]; omega) (by omega) (by simp; omega) ?_; intro v' w3 ow gr _)
        exact ⟨⟨k + 1, by omega, by omega, by go_num, by rw [E.out, ints_snoc]; exact ow, grownB (HB.out.alloc zz _) gr (ho.alloc _) (by simp; omega)⟩, by simp [intOf]; omega⟩
      · obtain rfl : k = 5 := by omega
        go_wp2_with fail
        go_ret
        refine ⟨_, rfl, ?_, HB.out⟩
        rw [show min n 5 = 5 by omega]; exact ho
    · obtain rfl : k = n := by omega
      go_wp2_with fail
      go_ret
      refine ⟨_, rfl, ?_, HB.out⟩
      rw [show min k 5 = k by omega, List.take_of_length_le (by have := hl.out; omega)]
      rw [List.take_of_length_le (by have := hl.out; omega)] at ho
      exact ho
/-- pairs of remainders and small moduli -/
theorem jd_of {R M : List Int} (h : M.length ≤ 5) (hm : ∀ x ∈ M, 1 ≤ x ∧ x ≤ 4096) : Jd (R.zip M) :=
  ⟨by rw [List.length_zip]; omega, fun p hp => hm p.2 (List.of_mem_zip hp).2⟩
theorem joinW_small {R M : List Int} (h : M.length ≤ 5) : joinW R M = jn (R.zip M) 0 1 := by unfold joinW; rw [if_neg (by omega)]
/-- all remainders there: the moduli themselves -/
theorem zip_snd {R M : List Int} (h : M.length ≤ R.length) : (R.zip M).map (·.2) = M := List.map_snd_zip h
theorem back_of {R M : List Int} (z : Int) (h5 : M.length ≤ 5) (hl : R.length = M.length) (hm : ∀ x ∈ M, 1 ≤ x ∧ x ≤ 4096) (hz : ∀ (k : Nat) (r m : Int), R[k]? = some r → M[k]? = some m → z % m = r % m) :
    joinW R M = (z % lc M 1, lc M 1, 0) ∧ 1 ≤ lc M 1 ∧ lc M 1 ≤ 4611686018427387904 ∧ ∀ m ∈ M, m ∣ lc M 1 := by
  have hz' : ∀ r m, (r, m) ∈ R.zip M → z % m = r % m := by
    intro r m h
    obtain ⟨k, hk⟩ := List.getElem?_of_mem h
    rw [List.getElem?_zip_eq_some] at hk
    exact hz k r m hk.1 hk.2
  have j := jd_of (R := R) h5 hm
  have e := j.back z hz'
  obtain ⟨p1, p2, p3⟩ := j.lc_pos z hz'
  rw [zip_snd (by omega)] at e p1 p2 p3
  refine ⟨by rw [joinW_small h5, e], p1, p2, fun m hm' => ?_⟩
  obtain ⟨k, hk⟩ := List.getElem?_of_mem hm'
  have hkM : k < M.length := (List.getElem?_eq_some_iff.1 hk).1
  have hkR : k < R.length := by omega
  exact p3 R[k] m (List.mem_of_getElem? (zip_at (List.getElem?_eq_getElem hkR) hk))
/-- an argument of numbers, read -/
theorem sl_arg {W : World} {base : Nat} {v : Value} (h1 : Value.okWide Try.prog W .any base 27 v) (h2 : Rd Try.prog W 27 v.cells.toList) : ∃ a n cap M, v = .slice a n cap ∧ Sl W a n cap M := by
  obtain ⟨ao, len, cap, hv, g1, g2, g3⟩ := rd_row (P := Try.prog) (t := 27) (e := 2) (n := 1) und27 (by kernel_rfl) (by decide) h2
  obtain ⟨a1, n1, c1, rfl⟩ := Go.WideShapes.okWide_slice und27 h1
  obtain ⟨rfl, rfl, rfl⟩ : a1 = ao ∧ n1 = len ∧ c1 = cap := by simpa [Value.cells] using hv
  rcases g3 with h0 | ⟨b, off, hb, rfl, hc⟩
  · exact ⟨a1, n1, c1, [], rfl, by rw [h0]; rfl, g1, by unfold maxLen at g2; omega, (fun x hx => by cases hx), .inl h0⟩
  · have key : ∀ i, ∃ x : Int, i < n1 → W.cell? ⟨b, off + i, none⟩ = some (.int .i64 x) ∧ -9223372036854775808 ≤ x ∧ x ≤ 9223372036854775807 := by
      intro i
      by_cases hi : i < n1
      · obtain ⟨cs, hl, hcell, hr⟩ := hc i hi
        obtain ⟨x, rfl, x1, x2⟩ := rd_int Try.underlying2 hr
        refine ⟨x, fun _ => ⟨?_, x1, x2⟩⟩
        have := hcell 0 (by decide)
        rwa [show i * 1 + 0 = i by omega] at this
      · exact ⟨0, fun h => absurd h hi⟩
    obtain ⟨f, hf⟩ := Classical.axiomOfChoice key
    refine ⟨_, n1, c1, (List.range n1).map f, rfl, by simp, g1, by unfold maxLen at g2; omega, fun x hx => ?_, .inr ⟨b, off, rfl, hb, fun j hj => ?_⟩⟩
    · obtain ⟨j, hj, rfl⟩ := List.mem_map.1 hx
      exact (hf j (List.mem_range.1 hj)).2
    · have hj' : j < n1 := by simpa using hj
      rw [(hf j hj').1]; simp
end Go.Proofs.Ytepoionjcjgnjaa
