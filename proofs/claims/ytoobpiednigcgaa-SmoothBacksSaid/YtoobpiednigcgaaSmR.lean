import Derived.Test.YtoobpiednigcgaaSmQ
import Derived.IntWalk
set_option autoImplicit false
set_option linter.unusedVariables false
namespace Go.Proofs.Ytoobpiednigcgaa
open Go.RowKit Lk
def TNo : FuncId → Array Value → Value → Prop := fun _ _ _ => False
/-- a variable of its own: a block of one cell -/
structure Bx (w : World) (b : Nat) (v : Value) : Prop where
  cell : w.cell? ⟨b, 0, none⟩ = some v
  lt : b < w.heap.size
theorem Bx.keep {w w' : World} {b : Nat} {v : Value} (h : Bx w b v) (hb : Below w.heap.size w w') : Bx w' b v :=
  ⟨(hb.cell (p := ⟨b, 0, none⟩) h.lt).trans h.cell, Nat.lt_of_lt_of_le h.lt hb.size⟩
theorem Bx.new (w : World) (v : Value) (t : TypeId) : Bx (w.alloc (.cells #[v] t)) w.heap.size v := ⟨by simp, by simp⟩
theorem cross_walk (a b c d A B C D : Nat) (w : World) (ha : Is a A) (hb : Is b B) (hc : Is c C) (hd : Is d D) : Calls Try.prog 31 #[.float .f64 a, .float .f64 b, .float .f64 c, .float .f64 d] w (fun e w' => ∃ v, e = .returned (.float .f64 v) ∧ (Is v (crossF A B C D) ∧ v < 2 ^ 64) ∧ Below w.heap.size w w') := by
  go_enter Try.func31, Try.ntmps31
  go_wp2_with ((with_reducible refine wpList_float (x := ?_) (y := ?_) (X := ?_) (Y := ?_) rfl rfl ?_ ?_ ?_ ?_ ?_ ?_); (· rfl); (rotate_left 4); (· rfl); (· rfl); (· first | assumption | exact Is.refl _); (· first | assumption | exact Is.refl _); intro v n hv hl)
  go_ret
  exact ⟨_, rfl, ⟨by assumption, by assumption⟩, by (repeat' (first | exact Below.refl _ _ | refine below_drewN ?_ _ | refine Below.setCell ?_ (by first | exact Nat.le_refl _ | (simp; done) | (simp; omega)) _ | refine Below.alloc ?_ (by first | exact Nat.le_refl _ | (simp; done) | (simp; omega)) _))⟩
theorem pair_walk (a b c d A B C D : Nat) (w : World) (ha : Is a A) (hb : Is b B) (hc : Is c C) (hd : Is d D) : Calls Try.prog 52 #[.float .f64 a, .float .f64 b, .float .f64 c, .float .f64 d] w (fun e w' => ∃ v, e = .returned (.float .f64 v) ∧ (Is v (pairF A B C D) ∧ v < 2 ^ 64) ∧ Below w.heap.size w w') := by
  go_enter Try.func52, Try.ntmps52
  go_wp2_with ((with_reducible refine wpList_float (x := ?_) (y := ?_) (X := ?_) (Y := ?_) rfl rfl ?_ ?_ ?_ ?_ ?_ ?_); (· rfl); (rotate_left 4); (· rfl); (· rfl); (· first | assumption | exact Is.refl _); (· first | assumption | exact Is.refl _); intro v n hv hl)
  go_ret
  exact ⟨_, rfl, ⟨by assumption, by assumption⟩, by (repeat' (first | exact Below.refl _ _ | refine below_drewN ?_ _ | refine Below.setCell ?_ (by first | exact Nat.le_refl _ | (simp; done) | (simp; omega)) _ | refine Below.alloc ?_ (by first | exact Nat.le_refl _ | (simp; done) | (simp; omega)) _))⟩
theorem less_walk (a b c d A B C D : Nat) (w : World) (ha : Is a A) (hb : Is b B) (hc : Is c C) (hd : Is d D) : Calls Try.prog 54 #[.float .f64 a, .float .f64 b, .float .f64 c, .float .f64 d] w (fun e w' => ∃ v, e = .returned (.float .f64 v) ∧ (Is v (crossF A B C D) ∧ v < 2 ^ 64) ∧ Below w.heap.size w w') := by
  go_enter Try.func54, Try.ntmps54
  go_wp2_with ((with_reducible refine wpList_float (x := ?_) (y := ?_) (X := ?_) (Y := ?_) rfl rfl ?_ ?_ ?_ ?_ ?_ ?_); (· rfl); (rotate_left 4); (· rfl); (· rfl); (· first | assumption | exact Is.refl _); (· first | assumption | exact Is.refl _); intro v n hv hl)
  go_ret
  exact ⟨_, rfl, ⟨by assumption, by assumption⟩, by (repeat' (first | exact Below.refl _ _ | refine below_drewN ?_ _ | refine Below.setCell ?_ (by first | exact Nat.le_refl _ | (simp; done) | (simp; omega)) _ | refine Below.alloc ?_ (by first | exact Nat.le_refl _ | (simp; done) | (simp; omega)) _))⟩
theorem two_walk (a b c d A B C D : Nat) (w : World) (ha : Is a A) (hb : Is b B) (hc : Is c C) (hd : Is d D) : Calls Try.prog 55 #[.float .f64 a, .float .f64 b, .float .f64 c, .float .f64 d] w (fun e w' => ∃ v, e = .returned (.float .f64 v) ∧ (Is v (pairF A B C D) ∧ v < 2 ^ 64) ∧ Below w.heap.size w w') := by
  go_enter Try.func55, Try.ntmps55
  go_wp2_with ((with_reducible refine wpList_float (x := ?_) (y := ?_) (X := ?_) (Y := ?_) rfl rfl ?_ ?_ ?_ ?_ ?_ ?_); (· rfl); (rotate_left 4); (· rfl); (· rfl); (· first | assumption | exact Is.refl _); (· first | assumption | exact Is.refl _); intro v n hv hl)
  go_ret
  exact ⟨_, rfl, ⟨by assumption, by assumption⟩, by (repeat' (first | exact Below.refl _ _ | refine below_drewN ?_ _ | refine Below.setCell ?_ (by first | exact Nat.le_refl _ | (simp; done) | (simp; omega)) _ | refine Below.alloc ?_ (by first | exact Nat.le_refl _ | (simp; done) | (simp; omega)) _))⟩
theorem line1_walk (k t n cap x : Nat) (a : Option Addr) (l : List Nat) (w : World) (h : Bx w t (.slice a n cap)) (hs : Fs w a n cap l) (hx : l[k]? = some x) :
    Calls Try.prog 40 #[.int .i64 k, .pointer (some ⟨t, 0, none⟩)] w (fun e w' => ∃ v, e = .returned (.float .f64 v) ∧ Is v x ∧ Below w.heap.size w w') := by
  have hk : k < n := by have := (List.getElem?_eq_some_iff.1 hx).1; have := hs.len; omega
  have hn := hs.small
  have hle := hs.le
  obtain ⟨b, off, x', rfl, hb, hx', hc, hlt⟩ := hs.at hk
  obtain rfl : x = x' := by rw [hx] at hx'; exact Option.some.inj hx'
  have h1 := h.cell
  clear hs h hx hx'
  go_enter Try.func40, Try.ntmps40
  go_wp2
  go_ret
  exact ⟨_, rfl, Is.refl _, Below.refl _ _⟩
theorem line2_walk (k t n cap x : Nat) (a : Option Addr) (l : List Nat) (w : World) (h : Bx w t (.slice a n cap)) (hs : Fs w a n cap l) (hx : l[k]? = some x) :
    Calls Try.prog 41 #[.int .i64 k, .pointer (some ⟨t, 0, none⟩)] w (fun e w' => ∃ v, e = .returned (.float .f64 v) ∧ Is v x ∧ Below w.heap.size w w') := by
  have hk : k < n := by have := (List.getElem?_eq_some_iff.1 hx).1; have := hs.len; omega
  have hn := hs.small
  have hle := hs.le
  obtain ⟨b, off, x', rfl, hb, hx', hc, hlt⟩ := hs.at hk
  obtain rfl : x = x' := by rw [hx] at hx'; exact Option.some.inj hx'
  have h1 := h.cell
  clear hs h hx hx'
  go_enter Try.func41, Try.ntmps41
  go_wp2
  go_ret
  exact ⟨_, rfl, Is.refl _, Below.refl _ _⟩
theorem line3_walk (k t g n cap x m M : Nat) (a : Option Addr) (l : List Nat) (w : World) (h : Bx w t (.slice a n cap)) (hs : Fs w a n cap l) (hx : l[k]? = some x) (hg : Bx w g (.float .f64 m)) (hm : Is m M) :
    Calls Try.prog 42 #[.int .i64 k, .pointer (some ⟨t, 0, none⟩), .pointer (some ⟨g, 0, none⟩)] w (fun e w' => ∃ v, e = .returned (.float .f64 v) ∧ Is v (fmul (fsub x M) (fsub x M)) ∧ Below w.heap.size w w') := by
  have hk : k < n := by have := (List.getElem?_eq_some_iff.1 hx).1; have := hs.len; omega
  have hn := hs.small
  have hle := hs.le
  obtain ⟨b, off, x', rfl, hb, hx', hc, hlt⟩ := hs.at hk
  obtain rfl : x = x' := by rw [hx] at hx'; exact Option.some.inj hx'
  have h1 := h.cell
  have h2 := hg.cell
  clear hs h hx hx' hg
  have k1 : (k : Int) < n := by omega
  go_enter Try.func42, Try.ntmps42
  go_wp2_with fail
  refine wp_region_drew TNo (by kernel_rfl) (by kernel_rfl) ?_
  repeat' (refine wpSet_step (fun K hK => ?_); go_simp; first | (refine drew_float (x := ?_) (y := ?_) (X := ?_) (Y := ?_) rfl ?_ ?_ ?_ ?_ ?_ ?_; rotate_left 4; (· rfl); (· rfl); (· rfl); (· first | assumption | exact Is.refl _); (· first | assumption | exact Is.refl _); intro v hv hl; refine hK _ ?_; clear hK K) | (refine drew_value (v := ?_) (fun n => ?_) ?_; rotate_left; (· go_simp; rfl); (refine hK _ ?_; clear hK K)))
  refine wpSet_nil ?_
  intro n1
  go_wp2
  go_ret
  exact ⟨_, rfl, by assumption, by (repeat' (first | exact Below.refl _ _ | refine below_drewN ?_ _ | refine Below.setCell ?_ (by first | exact Nat.le_refl _ | (simp; done) | (simp; omega)) _ | refine Below.alloc ?_ (by first | exact Nat.le_refl _ | (simp; done) | (simp; omega)) _))⟩
theorem line4_walk (k t g u j n cap cap' x y m M p P : Nat) (a a' : Option Addr) (l l' : List Nat) (w : World) (h : Bx w t (.slice a n cap)) (hs : Fs w a n cap l) (hx : l[k]? = some x) (hg : Bx w g (.float .f64 m)) (hm : Is m M)
    (h' : Bx w u (.slice a' n cap')) (hs' : Fs w a' n cap' l') (hy : l'[k]? = some y) (hj : Bx w j (.float .f64 p)) (hp : Is p P) :
    Calls Try.prog 43 #[.int .i64 k, .pointer (some ⟨t, 0, none⟩), .pointer (some ⟨g, 0, none⟩), .pointer (some ⟨u, 0, none⟩), .pointer (some ⟨j, 0, none⟩)] w (fun e w' => ∃ v, e = .returned (.float .f64 v) ∧ Is v (fmul (fsub x M) (fsub y P)) ∧ Below w.heap.size w w') := by
  have hk : k < n := by have := (List.getElem?_eq_some_iff.1 hx).1; have := hs.len; omega
  have hn := hs.small
  have hle := hs.le
  obtain ⟨b, off, x', rfl, hb, hx', hc, hlt⟩ := hs.at hk
  obtain rfl : x = x' := by rw [hx] at hx'; exact Option.some.inj hx'
  obtain ⟨b', off', y', rfl, hb', hy', hc', hlt'⟩ := hs'.at hk
  obtain rfl : y = y' := by rw [hy] at hy'; exact Option.some.inj hy'
  have h1 := h.cell
  have h2 := hg.cell
  have h3 := h'.cell
  have h4 := hj.cell
  clear hs h hx hx' hg hs' h' hy hy' hj
  have k1 : (k : Int) < n := by omega
  go_enter Try.func43, Try.ntmps43
  go_wp2_with fail
  refine wp_region_drew TNo (by kernel_rfl) (by kernel_rfl) ?_
  repeat' (refine wpSet_step (fun K hK => ?_); go_simp; first | (refine drew_float (x := ?_) (y := ?_) (X := ?_) (Y := ?_) rfl ?_ ?_ ?_ ?_ ?_ ?_; rotate_left 4; (· rfl); (· rfl); (· rfl); (· first | assumption | exact Is.refl _); (· first | assumption | exact Is.refl _); intro v hv hl; refine hK _ ?_; clear hK K) | (refine drew_value (v := ?_) (fun n => ?_) ?_; rotate_left; (· go_simp; rfl); (refine hK _ ?_; clear hK K)))
  refine wpSet_nil ?_
  intro n1
  go_wp2
  go_ret
  exact ⟨_, rfl, by assumption, by (repeat' (first | exact Below.refl _ _ | refine below_drewN ?_ _ | refine Below.setCell ?_ (by first | exact Nat.le_refl _ | (simp; done) | (simp; omega)) _ | refine Below.alloc ?_ (by first | exact Nat.le_refl _ | (simp; done) | (simp; omega)) _))⟩
theorem slope_walk (k t u n cap cap' x0 x1 t0 t1 : Nat) (a a' : Option Addr) (l l' : List Nat) (w : World) (h : Bx w t (.slice a n cap)) (hs : Fs w a n cap l) (hx : l[k]? = some t0) (hx' : l[k + 1]? = some t1)
    (h' : Bx w u (.slice a' n cap')) (hs' : Fs w a' n cap' l') (hy : l'[k]? = some x0) (hy' : l'[k + 1]? = some x1) :
    Calls Try.prog 46 #[.int .i64 k, .pointer (some ⟨u, 0, none⟩), .pointer (some ⟨t, 0, none⟩)] w (fun e w' => ∃ v, e = .returned (.float .f64 v) ∧ Is v (fdiv (fsub x1 x0) (fsub t1 t0)) ∧ Below w.heap.size w w') := by
  have hk : k + 1 < n := by have := (List.getElem?_eq_some_iff.1 hx').1; have := hs.len; omega
  have hn := hs.small
  have hle := hs.le
  obtain ⟨b, off, z, rfl, hb, hz, hc, hlt⟩ := hs.at (show k < n by omega)
  obtain rfl : t0 = z := by rw [hx] at hz; exact Option.some.inj hz
  clear hz
  obtain ⟨b_, off_, z, e, hb_, hz, hc', hlt'⟩ := hs.at hk
  obtain ⟨rfl, rfl⟩ : b = b_ ∧ off = off_ := by simpa using e
  obtain rfl : t1 = z := by rw [hx'] at hz; exact Option.some.inj hz
  clear hz e
  obtain ⟨g, of2, z, rfl, hg, hz, hd, hlt2⟩ := hs'.at (show k < n by omega)
  obtain rfl : x0 = z := by rw [hy] at hz; exact Option.some.inj hz
  clear hz
  obtain ⟨b_, off_, z, e, hg_, hz, hd', hlt2'⟩ := hs'.at hk
  obtain ⟨rfl, rfl⟩ : g = b_ ∧ of2 = off_ := by simpa using e
  obtain rfl : x1 = z := by rw [hy'] at hz; exact Option.some.inj hz
  clear hz e
  have h1 := h.cell
  have h2 := h'.cell
  clear hs h hx hx' hs' h' hy hy' 
  have k1 : (k : Int) < n := by omega
  have k2 : (k : Int) + 1 < n := by omega
  have s1 : IntKind.i64.wrap ((k : Int) + 1) = (k : Int) + 1 := IntWalk.i64_in _ (by omega)
  have s2 : 0 ≤ (k : Int) + 1 := by omega
  have s3 : ((k : Int) + 1).toNat = k + 1 := by omega
  go_enter Try.func46, Try.ntmps46
  go_wp2_with fail
  refine wp_region_drew TNo (by kernel_rfl) (by kernel_rfl) ?_
  repeat' (refine wpSet_step (fun K hK => ?_); go_simp; first | (refine drew_float (x := ?_) (y := ?_) (X := ?_) (Y := ?_) rfl ?_ ?_ ?_ ?_ ?_ ?_; rotate_left 4; (· rfl); (· rfl); (· rfl); (· first | assumption | exact Is.refl _); (· first | assumption | exact Is.refl _); intro v hv hl; refine hK _ ?_; clear hK K) | (refine drew_value (v := ?_) (fun n => ?_) ?_; rotate_left; (· go_simp; rfl); (refine hK _ ?_; clear hK K)))
  refine wpSet_nil ?_
  intro n1
  go_wp2
  go_ret
  exact ⟨_, rfl, by assumption, by (repeat' (first | exact Below.refl _ _ | refine below_drewN ?_ _ | refine Below.setCell ?_ (by first | exact Nat.le_refl _ | (simp; done) | (simp; omega)) _ | refine Below.alloc ?_ (by first | exact Nat.le_refl _ | (simp; done) | (simp; omega)) _))⟩
theorem sides_walk (n m c c' : Nat) (a a' : Option Addr) (w : World) (hn : n ≤ 9223372036854775807) (hm : m ≤ 9223372036854775807) :
    Calls Try.prog 38 #[.slice a n c, .slice a' m c'] w (fun e w' => e = .returned (.int .i64 (if n ≠ m then 5 else if 1024 < n then 3 else 0)) ∧ w = w') := by
  by_cases h1 : n = m
  · subst h1
    by_cases h2 : 1024 < n
    · have E : Hid ((if n ≠ n then (5 : Int) else if 1024 < n then 3 else 0) = 3) := Lib.hid (by rw [if_neg (by omega), if_pos h2])
      rw [E.out]
      go_enter Try.func38, Try.ntmps38
      go_wp2
      go_ret
      exact ⟨rfl, rfl⟩
    · have E : Hid ((if n ≠ n then (5 : Int) else if 1024 < n then 3 else 0) = 0) := Lib.hid (by rw [if_neg (by omega), if_neg h2])
      rw [E.out]
      go_enter Try.func38, Try.ntmps38
      go_wp2
      go_ret
      exact ⟨rfl, rfl⟩
  · have E : Hid ((if n ≠ m then (5 : Int) else if 1024 < n then 3 else 0) = 5) := Lib.hid (by rw [if_pos h1])
    rw [E.out]
    have h2 : ¬ (n : Int) = m := by omega
    go_enter Try.func38, Try.ntmps38
    go_wp2
    go_ret
    exact ⟨rfl, rfl⟩
set_option maxHeartbeats 1000000 in
theorem finite_walk (a : Option Addr) (n cap : Nat) (l : List Nat) (w : World) (h : Fs w a n cap l) : Calls Try.prog 44 #[.slice a n cap] w (fun e w' => e = .returned (.bool (finL l)) ∧ w = w') := by
  have HC := Lib.hid h
  have hn : n ≤ 9223372036854775807 := Nat.le_trans h.le h.small
  clear h
  go_enter Try.func44, Try.ntmps44
  go_wp2_with fail
  go_loop [3] (fun i => ∃ k : Nat, k ≤ n ∧ i = .int .i64 k ∧ finL (l.take k) = true) (fun i => n - (intOf i).toNat)
  case atStart => exact ⟨0, by omega, rfl, rfl⟩
  case round =>
    obtain ⟨k, hk, rfl, hf⟩ := hrel
    have HF := Lib.hid hf
    clear hf
    by_cases hlt : k < n
    · obtain ⟨b, off, x, rfl, hb0, hx, hc, hx1⟩ := HC.out.at hlt
      have HX := Lib.hid hx
      clear hx
      by_cases hfx : Lk.Fin x
      · have T : decide (Lk.Fin x) = true := decide_eq_true hfx
        have I := isfin_walk x w
        rw [T] at I
        clear T
        have HFX := Lib.hid hfx
        clear hfx
        go_wp2_with (go_at_call 34; refine I.mono ?_; rintro e w' ⟨rfl, rfl⟩)
        go_round
        case rel => exact ⟨k + 1, by omega, by go_num, by rw [finL_snoc HX.out, HF.out]; simpa using HFX.out⟩
        case measure => simp [intOf]; omega
      · have T : decide (Lk.Fin x) = false := decide_eq_false hfx
        have I := isfin_walk x w
        rw [T] at I
        clear T
        have HFX := Lib.hid hfx
        clear hfx
        go_wp2_with (go_at_call 34; refine I.mono ?_; rintro e w' ⟨rfl, rfl⟩)
        go_ret
        exact ⟨ret_bool (by rw [finL_not HX.out HFX.out]), rfl⟩
    · obtain rfl : k = n := by omega
      go_wp2_with fail
      go_ret
      exact ⟨ret_bool (by rw [← HF.out, List.take_of_length_le (by rw [HC.out.len]; omega)]), rfl⟩
set_option maxHeartbeats 1000000 in
theorem floats_walk (a : Option Addr) (n cap : Nat) (l L : List Nat) (w : World) (h : Fs w a n cap l) (hn : 1 ≤ n) (hL : L.length = n) (hi : ∀ (k x y : Nat), l[k]? = some x → L[k]? = some y → Is x y) :
    Calls Try.prog 45 #[.slice a n cap] w (fun e w' => ∃ v, e = .returned (.float .f64 v) ∧ Is v (addL L) ∧ Below w.heap.size w w') := by
  have HC := Lib.hid h
  have hn : n ≤ 9223372036854775807 := Nat.le_trans h.le h.small
  obtain ⟨b, off, x0, rfl, hb0, hx0, hc0, hx1⟩ := h.at (show 0 < n by omega)
  have HI := Lib.hid hi
  have HL := Lib.hid hL
  obtain ⟨y0, hy0⟩ : ∃ y, L[0]? = some y := ⟨_, List.getElem?_eq_getElem (by omega)⟩
  have HY := Lib.hid hy0
  have I0 := Lib.hid (hi _ _ _ hx0 hy0)
  have hoff : off + 0 = off := by omega
  rw [hoff] at hc0
  have n0 : ((n : Int) == 0) = false := by simp; omega
  clear h hi hL hy0 hx0 hoff
  go_enter Try.func45, Try.ntmps45
  go_wp2_with fail
  go_loopw [3, 4] (fun s i wr => ∃ k v : Nat, 1 ≤ k ∧ k ≤ n ∧ i = .int .i64 k ∧ s = .float .f64 v ∧ Is v (addL (L.take k)) ∧ Below w.heap.size w wr) (fun _ i _ => n - (intOf i).toNat)
  case atStart => exact ⟨1, x0, by omega, by omega, rfl, rfl, by rw [addL_one HY.out]; exact I0.out, Below.refl _ _⟩
  case round =>
    obtain ⟨k, v, hk1, hk, rfl, rfl, hv, hb⟩ := hrel
    clear hc0
    have HB := Lib.hid hb
    clear hb
    by_cases hlt : k < n
    · obtain ⟨b, off, x, e, hb0, hx, hc, hx1⟩ := (HC.out.keep HB.out).at hlt
      obtain ⟨rfl, rfl⟩ : _ = b ∧ _ = off := by simpa using e
      obtain ⟨y, hy⟩ : ∃ y, L[k]? = some y := ⟨_, List.getElem?_eq_getElem (by rw [HL.out]; omega)⟩
      have hxy := HI.out _ _ _ hx hy
      have HY2 := Lib.hid hy
      clear hx hy e
      go_wp2_with ((with_reducible refine wpList_float (x := ?_) (y := ?_) (X := ?_) (Y := ?_) rfl rfl ?_ ?_ ?_ ?_ ?_ ?_); (· rfl); (rotate_left 4); (· rfl); (· rfl); (· first | assumption | exact Is.refl _); (· first | assumption | exact Is.refl _); intro v n hv hl)
      go_roundw
      case rel => exact ⟨k + 1, _, by omega, by omega, by go_num, rfl, by rw [addL_take HY2.out (by omega)]; assumption, below_drewN HB.out _⟩
      case measure => simp [intOf]; omega
    · obtain rfl : k = n := by omega
      go_wp2_with fail
      go_ret
      exact ⟨_, rfl, by rwa [List.take_of_length_le (by rw [HL.out]; omega)] at hv, HB.out⟩
end Go.Proofs.Ytoobpiednigcgaa
