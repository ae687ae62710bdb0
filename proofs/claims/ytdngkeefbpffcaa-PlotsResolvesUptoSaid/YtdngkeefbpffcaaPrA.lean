import Derived.Test.YtdngkeefbpffcaaPuN
import Derived.Test.YtdngkeefbpffcaaPlS
set_option autoImplicit false
set_option linter.unusedVariables false
namespace Go.Proofs.Ytdngkeefbpffcaa
open Go.RowKit Lk Rs Pl Fo
/-! the document's Resolve: what it asks -/
theorem rmodulo_walk (x m : Int) (m1 : 1 ≤ m) (m2 : m ≤ 1000000) (w : World) : Calls Try.prog 60 #[.int .i64 x, .int .i64 m] w (fun e w' => e = .returned (.int .i64 (x % m)) ∧ w = w') := by
  have t1 := tmb x m (by omega)
  have N := Lib.hid (fun h => tm_neg (x := x) (m := m) (by omega) h)
  have P := Lib.hid (fun h => tm_pos (x := x) (m := m) (by omega) h)
  generalize hy : x.tmod m = y at *
  obtain ⟨r, hr⟩ : ∃ r, r = x % m := ⟨_, rfl⟩
  rw [← hr] at N P ⊢
  clear hr
  by_cases h0 : y < 0
  · have e := Lib.hid (N.out h0)
    go_enter Try.func60, Try.ntmps60
    go_wp2_with fail
    go_ret
    exact ⟨by rw [← e.out]; rfl, rfl⟩
  · have e := Lib.hid (P.out h0)
    go_enter Try.func60, Try.ntmps60
    go_wp2_with fail
    go_ret
    exact ⟨by rw [← e.out]; rfl, rfl⟩
theorem rfar_walk (x r m : Int) (m1 : 1 ≤ m) (m2 : m ≤ 1000000) (w : World) : Calls Try.prog 35 #[.int .i64 x, .int .i64 r, .int .i64 m] w (fun e w' => e = .returned (.int .i64 (frD x r m)) ∧ w = w') := by
  have a0 := Int.emod_nonneg x (b := m) (by omega)
  have a1 := Int.emod_lt_of_pos x (b := m) (by omega)
  have b0 := Int.emod_nonneg r (b := m) (by omega)
  have b1 := Int.emod_lt_of_pos r (b := m) (by omega)
  have d0 := Int.emod_nonneg (x - r) (b := m) (by omega)
  have d1 := Int.emod_lt_of_pos (x - r) (b := m) (by omega)
  have M1 := Lib.hid (rmodulo_walk x m m1 m2)
  have M2 := Lib.hid (rmodulo_walk r m m1 m2)
  have M3 := Lib.hid (rmodulo_walk (x % m - r % m) m m1 m2)
  have F : Hid (frD x r m = min ((x - r) % m) (m - (x - r) % m)) := rfl
  rw [← Int.sub_emod] at M3
  generalize (x - r) % m = d at d0 d1 M3 F
  generalize x % m = p at a0 a1 M1 M3
  generalize r % m = q at b0 b1 M2 M3
  have wpq : IntKind.i64.wrap (p - q) = p - q := IntWalk.i64_in _ (by omega)
  have wmd : IntKind.i64.wrap (m - d) = m - d := IntWalk.i64_in _ (by omega)
  by_cases c : d ≤ m - d
  · have E : Hid (frD x r m = d) := Lib.hid (by rw [F.out]; omega)
    clear F
    go_enter Try.func35, Try.ntmps35
    go_wp2_with fail
    refine (M1.out _).mono ?_
    rintro e w1 ⟨rfl, rfl⟩
    go_wp2_with fail
    refine (M2.out _).mono ?_
    rintro e w1 ⟨rfl, rfl⟩
    go_wp2_with fail
    refine (M3.out _).mono ?_
    rintro e w1 ⟨rfl, rfl⟩
    go_wp2_with fail
    go_ret
    exact ⟨by rw [E.out]; rfl, rfl⟩
  · have E : Hid (frD x r m = m - d) := Lib.hid (by rw [F.out]; omega)
    clear F
    go_enter Try.func35, Try.ntmps35
    go_wp2_with fail
    refine (M1.out _).mono ?_
    rintro e w1 ⟨rfl, rfl⟩
    go_wp2_with fail
    refine (M2.out _).mono ?_
    rintro e w1 ⟨rfl, rfl⟩
    go_wp2_with fail
    refine (M3.out _).mono ?_
    rintro e w1 ⟨rfl, rfl⟩
    go_wp2_with fail
    go_ret
    exact ⟨by rw [E.out]; rfl, rfl⟩
/-- near one of a beat's cells -/
def nrK (x : Int) (E off : Int) (C : List Int) (k : Nat) : Bool := (C.take k).any fun c => decide (frD x c E ≤ off)
theorem nrK_zero (x E off : Int) (C : List Int) : nrK x E off C 0 = false := rfl
theorem nrK_succ {x E off : Int} {C : List Int} {k : Nat} {c : Int} (h : C[k]? = some c) : nrK x E off C (k + 1) = (nrK x E off C k || decide (frD x c E ≤ off)) := by
  unfold nrK; rw [List.take_add_one, h, List.any_append]; simp
theorem nrK_more {x E off : Int} {C : List Int} {k : Nat} (h : nrK x E off C k = true) : nrK x E off C C.length = true := by
  unfold nrK at h ⊢
  rw [List.take_length]
  obtain ⟨c, hc, h2⟩ := List.any_eq_true.1 h
  exact List.any_eq_true.2 ⟨c, List.mem_of_mem_take hc, h2⟩
theorem mk_any {E : Nat} {off : Int} {C : List Int} {x : Nat} : mk E off C x = C.any fun c => mk E off [c] x := by
  unfold mk
  congr 1
  funext c
  simp
theorem mk_nr {E : Nat} {off : Int} {C : List Int} {x : Nat} (hE : 1 ≤ E) (o0 : 0 ≤ off) : mk E (min off E) C (x % E) = nrK x E off C C.length := by
  unfold nrK
  rw [mk_any, List.take_length]
  congr 1
  funext c
  rw [mk_one hE o0]
  have : frD ((x % E : Nat) : Int) c E = frD x c E := by rw [Int.natCast_emod, frD_self]
  rw [this]
/-- all beats so far -/
def hitK (B : List Bt) (LL : List (List Int)) (off : Int) (x k : Nat) : Bool := ((B.zip LL).take k).all fun p => nrK x p.1.e off p.2 p.2.length
theorem hitK_zero (B : List Bt) (LL : List (List Int)) (off : Int) (x : Nat) : hitK B LL off x 0 = true := rfl
theorem hitK_succ {B : List Bt} {LL : List (List Int)} {off : Int} {x k : Nat} {t : Bt} {C : List Int} (h1 : B[k]? = some t) (h2 : LL[k]? = some C) : hitK B LL off x (k + 1) = (hitK B LL off x k && nrK x t.e off C C.length) := by
  unfold hitK
  have : (B.zip LL)[k]? = some (t, C) := by rw [List.getElem?_zip_eq_some]; exact ⟨h1, h2⟩
  rw [List.take_add_one, this, List.all_append]; simp
theorem hitK_less {B : List Bt} {LL : List (List Int)} {off : Int} {x k : Nat} (h : hitK B LL off x k = false) (n : Nat) (hk : k ≤ n) : hitK B LL off x n = false := by
  unfold hitK at h ⊢
  rw [List.all_eq_false] at h ⊢
  obtain ⟨p, hp, h2⟩ := h
  refine ⟨p, ?_, h2⟩
  have : (B.zip LL).take k = ((B.zip LL).take n).take k := by rw [List.take_take]; congr 1; omega
  rw [this] at hp
  exact List.mem_of_mem_take hp
theorem hitK_all {B : List Bt} {LL : List (List Int)} {off : Int} {x : Nat} (o0 : 0 ≤ off) (hB : ∀ t ∈ B.take (min B.length LL.length), 1 ≤ t.e) : hitK B LL off x (min B.length LL.length) = hitR B LL off x := by
  unfold hitK hitR
  rw [List.take_of_length_le (by rw [List.length_zip]; exact Nat.le_refl _)]
  rw [Bool.eq_iff_iff, List.all_eq_true, List.all_eq_true]
  have key : ∀ p ∈ B.zip LL, nrK x p.1.e off p.2 p.2.length = mk p.1.e.toNat (min off p.1.e) p.2 (x % p.1.e.toNat) := fun p hp => by
    obtain ⟨j, hj, rfl⟩ := List.mem_iff_getElem.1 hp
    simp only [List.length_zip] at hj
    have e1 : 1 ≤ B[j].e := hB _ (by rw [List.mem_take_iff_getElem]; exact ⟨j, by omega, rfl⟩)
    obtain ⟨E, hE⟩ : ∃ E : Nat, B[j].e = (E : Int) := ⟨B[j].e.toNat, by omega⟩
    simp only [List.getElem_zip]
    rw [hE, Int.toNat_natCast]
    exact (mk_nr (by omega) o0).symm
  constructor
  · intro h p hp; rw [← key p hp]; exact h p hp
  · intro h p hp; rw [key p hp]; exact h p hp
end Go.Proofs.Ytdngkeefbpffcaa
