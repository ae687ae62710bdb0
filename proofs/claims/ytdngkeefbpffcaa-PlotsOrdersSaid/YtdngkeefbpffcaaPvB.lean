import Derived.Test.YtdngkeefbpffcaaPsU
set_option autoImplicit false
set_option linter.unusedVariables false
namespace Pl
open Lk
/-! the order of plots, plain -/
theorem pl_sgn {x : Nat} (h : x < 2 ^ 64) : plF x = if Nan x then 18446744073709551615 else if sgn x = true then 9223372036854775807 - rg x else rg x + 9223372036854775808 := by
  unfold plF
  by_cases hn : Nan x
  · rw [if_pos hn, if_pos hn]
  · rw [if_neg hn, if_neg hn]
    have e : x / 9223372036854775808 = 1 ↔ sgn x = true := by unfold sgn SGN; rw [beq_iff_eq]; omega
    by_cases hs : sgn x = true
    · rw [if_pos (e.2 hs), if_pos hs]
      have := e.2 hs
      unfold rg SGN; omega
    · rw [if_neg (fun q => hs (e.1 q)), if_neg hs]
      have : ¬ x / 9223372036854775808 = 1 := fun q => hs (e.1 q)
      unfold rg SGN; omega
theorem rg_lt63 (x : Nat) : rg x < 9223372036854775808 := by unfold rg SGN; omega
theorem pl_lt {x y : Nat} (hx : x < 2 ^ 64) (hy : y < 2 ^ 64) (nx : ¬ Nan x) (ny : ¬ Nan y) (h : ev x < ev y) : plF x < plF y := by
  rw [pl_sgn hx, pl_sgn hy, if_neg nx, if_neg ny]
  have r1 := rg_lt63 x
  have r2 := rg_lt63 y
  have m1 := mg_nonneg (rg x)
  have m2 := mg_nonneg (rg y)
  unfold ev sv at h
  cases sx : sgn x <;> cases sy : sgn y
  · simp only [sx, sy, Bool.false_eq_true, if_false] at h ⊢
    have := mg_lt_iff.1 h; omega
  · simp only [sx, sy, Bool.false_eq_true, if_false, if_true] at h
    grind
  · simp only [Bool.false_eq_true, if_false, if_true]; omega
  · simp only [sx, sy, if_true] at h ⊢
    have := mg_lt_iff.1 (show mg (rg y) < mg (rg x) by grind); omega
theorem pl_nan {x : Nat} (hx : x < 2 ^ 64) : plF x = 18446744073709551615 ↔ Nan x := by
  rw [pl_sgn hx]
  by_cases hn : Nan x
  · rw [if_pos hn]; simp [hn]
  · rw [if_neg hn]
    have r1 : rg x ≤ INF := by unfold Nan at hn; omega
    unfold INF at r1
    simp only [hn, iff_false]
    split <;> omega
theorem pl_inj {x y : Nat} (hx : x < 2 ^ 64) (hy : y < 2 ^ 64) (h : plF x = plF y) : Is x y := by
  by_cases nx : Nan x
  · have e := (pl_nan hx).2 nx
    exact .inl ⟨nx, (pl_nan hy).1 (by rw [← h, e])⟩
  · by_cases ny : Nan y
    · exact absurd ((pl_nan hx).1 (by rw [h, (pl_nan hy).2 ny])) nx
    · refine .inr ⟨?_, nx⟩
      rw [pl_sgn hx, pl_sgn hy, if_neg nx, if_neg ny] at h
      have r1 := rg_lt63 x
      have r2 := rg_lt63 y
      rw [word_of x hx, word_of y hy]
      cases sx : sgn x <;> cases sy : sgn y <;> simp only [sx, sy, Bool.false_eq_true, if_false, if_true] at h
      · rw [show rg x = rg y by omega]
      · omega
      · omega
      · rw [show rg x = rg y by omega]
theorem pw_nan {x : Nat} (hx : x < 2 ^ 64) : powF x = 18446744073709551615 ↔ Nan x := by
  unfold powF
  by_cases hn : Nan x
  · rw [if_pos hn]; simp [hn]
  · rw [if_neg hn]
    have : plF x ≠ 0 := by
      rw [pl_sgn hx, if_neg hn]
      have r1 : rg x ≤ INF := by unfold Nan at hn; omega
      unfold INF at r1
      split <;> omega
    simp only [hn, iff_false]; omega
theorem pl_le {x : Nat} (hx : x < 2 ^ 64) : plF x ≤ 18446744073709551615 := by
  have r1 := rg_lt63 x
  rw [pl_sgn hx]
  split
  · omega
  · split <;> omega
theorem pw_inj {x y : Nat} (hx : x < 2 ^ 64) (hy : y < 2 ^ 64) (h : powF x = powF y) : Is x y := by
  by_cases nx : Nan x
  · exact .inl ⟨nx, (pw_nan hy).1 (by rw [← h, (pw_nan hx).2 nx])⟩
  · by_cases ny : Nan y
    · exact absurd ((pw_nan hx).1 (by rw [h, (pw_nan hy).2 ny])) nx
    · have l1 := pl_le hx
      have l2 := pl_le hy
      unfold powF at h
      rw [if_neg nx, if_neg ny] at h
      exact pl_inj hx hy (by omega)
/-- the greater power stands ahead -/
theorem pw_le {x y : Nat} (hx : x < 2 ^ 64) (hy : y < 2 ^ 64) (h : powF x ≤ powF y) : cgt y x = false ∧ (Nan x → Nan y) := by
  have l1 := pl_le hx
  have l2 := pl_le hy
  refine ⟨?_, fun nx => ?_⟩
  · rw [Bool.eq_false_iff]
    intro c
    obtain ⟨ny, nx, e⟩ := cgt_iff.1 c
    have := pl_lt hx hy nx ny e
    unfold powF at h
    rw [if_neg nx, if_neg ny] at h
    omega
  · have e := (pw_nan hx).2 nx
    rw [e] at h
    have : powF y ≤ 18446744073709551615 := by unfold powF; split <;> omega
    exact (pw_nan hy).1 (by omega)
theorem cmpN_zero {a b : Nat} (h : cmpN a b = 0) : a = b := by
  rcases cmpN_val a b with ⟨h1, h2⟩ | ⟨h1, h2⟩ | ⟨h1, h2⟩ <;> omega
theorem cmpL_zero : ∀ {A B : List Nat}, A.length = B.length → cmpL A B = 0 → A = B
  | [], [], _, _ => rfl
  | a :: A, [], h, _ => by simp at h
  | [], b :: B, h, _ => by simp at h
  | a :: A, b :: B, h, k => by
    rw [cmpL] at k
    by_cases c : cmpN a b = 0
    · rw [if_pos c] at k
      rw [cmpN_zero c, cmpL_zero (by simpa using h) k]
    · rw [if_neg c] at k; exact absurd k c
/-- two plots the same but for words of no number -/
structure IsP (p q : Pt) : Prop where
  range : Is p.range q.range
  speed : Is p.speed q.speed
  power : Is p.power q.power
  bearing : Is p.bearing q.bearing
  time : Is p.time q.time
theorem key_inj {p q : Pt} (hp : Go.Proofs.Ytdngkeefbpffcaa.PtLt p) (hq : Go.Proofs.Ytdngkeefbpffcaa.PtLt q) (h : key p = key q) : IsP p q := by
  unfold key at h
  simp only [List.cons.injEq, and_true] at h
  exact ⟨pl_inj hp.range hq.range h.2.1, pl_inj hp.speed hq.speed h.2.2.1, pw_inj hp.power hq.power h.1, pl_inj hp.bearing hq.bearing h.2.2.2.1, pl_inj hp.time hq.time h.2.2.2.2⟩
section
variable {lt : Nat → Nat → Bool}
/-- what stands at a place does not hang on the order of what is alike -/
theorem kth (h : WO lt) {n : Nat} {f g : Nat → Nat} (fm : ∀ k, k < n → f k < n) (gm : ∀ k, k < n → g k < n) (fi : ∀ i j, i < j → j < n → f i ≠ f j) (gi : ∀ i j, i < j → j < n → g i ≠ g j)
    (fs : ∀ i j, i < j → j < n → lt (f j) (f i) = false) (gs : ∀ i j, i < j → j < n → lt (g j) (g i) = false) {k : Nat} (hk : k < n) : lt (f k) (g k) = false := by
  rw [Bool.eq_false_iff]
  intro c
  have sur : ∀ i, ∃ j, i ≤ k → j < k ∧ g j = f i := fun i => by
    by_cases hi : i ≤ k
    · obtain ⟨j, j1, j2⟩ := pig n g gm gi (f i) (fm i (by omega))
      refine ⟨j, fun _ => ⟨?_, j2⟩⟩
      by_cases q : j < k
      · exact q
      · exfalso
        have e1 : lt (f k) (f i) = false := by
          by_cases u : i = k
          · rw [u]; exact h.irr _
          · exact fs i k (by omega) hk
        have e2 : lt (f i) (g k) = true := by
          rcases h.sp (f i) c with u | u
          · rw [e1] at u; cases u
          · exact u
        rw [← j2] at e2
        by_cases u : j = k
        · rw [u, h.irr] at e2; cases e2
        · rw [gs k j (by omega) j1] at e2; cases e2
    · exact ⟨0, fun q => absurd q hi⟩
  obtain ⟨H, hH⟩ := Classical.axiomOfChoice sur
  obtain ⟨i, i1, i2⟩ := pig (k + 1) H (fun i hi => by have := (hH i (by omega)).1; omega) (fun i j hij hj e => by
    have a := (hH i (by omega)).2
    have b := (hH j (by omega)).2
    rw [e] at a
    exact fi i j hij (by omega) (a.symm.trans b)) k (by omega)
  have := (hH i (by omega)).1
  omega
end
/-- a turn about -/
def rot (n c i : Nat) : Nat := if i + c < n then i + c else if i + c < 2 * n then i + c - n else i + c - 2 * n
theorem rot_mod {n c i : Nat} (hc : c < 2 * n) (hi : i < n) : (i + c) % n = rot n c i := by
  unfold rot
  split
  · exact Nat.mod_eq_of_lt ‹_›
  · split
    · rw [Nat.mod_eq_sub_mod (by omega), Nat.mod_eq_of_lt (by omega)]
    · rw [Nat.mod_eq_sub_mod (by omega), Nat.mod_eq_sub_mod (by omega), Nat.mod_eq_of_lt (by omega)]; omega
theorem rot_lt {n c i : Nat} (hc : c < 2 * n) (hi : i < n) : rot n c i < n := by unfold rot; split <;> (try split) <;> omega
theorem rot_inj {n c i j : Nat} (hc : c < 2 * n) (hi : i < n) (hj : j < n) (h : i ≠ j) : rot n c i ≠ rot n c j := by
  unfold rot
  split <;> (try split) <;> (try split) <;> (try split) <;> omega
end Pl
namespace Go.Proofs.Ytdngkeefbpffcaa
open Go.RowKit Lk Pl
/-- l put in order -/
def sortedL (l : List Pt) (n : Nat) : List Pt := (ordL (ltI l) n).map fun i => l.getD i pt0
def turnedL (l : List Pt) (n c : Nat) : List Pt := (List.range n).map fun i => l.getD (rot n c i) pt0
theorem pt0_lt : PtLt pt0 := ⟨by decide, by decide, by decide, by decide, by decide⟩
theorem getD_lt {l : List Pt} (h : ∀ p ∈ l, PtLt p) (i : Nat) : PtLt (l.getD i pt0) := by
  rw [List.getD_eq_getElem?_getD]
  cases e : l[i]? with
  | none => exact pt0_lt
  | some q => exact h _ (List.mem_of_getElem? e)
theorem sorted_lt {l : List Pt} (h : ∀ p ∈ l, PtLt p) (n : Nat) : ∀ p ∈ sortedL l n, PtLt p := fun p hp => by
  obtain ⟨i, _, rfl⟩ := List.mem_map.1 hp
  exact getD_lt h i
theorem turned_lt {l : List Pt} (h : ∀ p ∈ l, PtLt p) (n c : Nat) : ∀ p ∈ turnedL l n c, PtLt p := fun p hp => by
  obtain ⟨i, _, rfl⟩ := List.mem_map.1 hp
  exact getD_lt h _
theorem sorted_len (l : List Pt) (n : Nat) : (sortedL l n).length = n := by unfold sortedL; rw [List.length_map, (ord_ok l n).1]
theorem turned_len (l : List Pt) (n c : Nat) : (turnedL l n c).length = n := by unfold turnedL; rw [List.length_map, List.length_range]
theorem ltI_eq {l m : List Pt} {i j a b : Nat} (h1 : l.getD i pt0 = m.getD a pt0) (h2 : l.getD j pt0 = m.getD b pt0) : ltI l i j = ltI m a b := by
  unfold ltI
  rw [show (⟨0, 0, 0, 0, 0⟩ : Pt) = pt0 from rfl, h1, h2]
theorem sorted_at {l : List Pt} {n k : Nat} (hk : k < n) : (sortedL l n).getD k pt0 = l.getD (gd (ordL (ltI l) n) k) pt0 := by
  have e : k < (ordL (ltI l) n).length := by rw [(ord_ok l n).1]; exact hk
  unfold sortedL gd
  rw [List.getD_eq_getElem?_getD, List.getElem?_map, List.getElem?_eq_getElem e, List.getD_eq_getElem?_getD (l := ordL (ltI l) n), List.getElem?_eq_getElem e]; rfl
theorem turned_at {l : List Pt} {n c k : Nat} (hk : k < n) : (turnedL l n c).getD k pt0 = l.getD (rot n c k) pt0 := by
  unfold turnedL
  rw [List.getD_eq_getElem?_getD, List.getElem?_map, List.getElem?_range hk]; rfl
theorem ord_le (l : List Pt) (n : Nat) {i j : Nat} (hij : i < j) (hj : j < n) : ltI l (gd (ordL (ltI l) n) j) (gd (ordL (ltI l) n) i) = false := srt_le (ltI_wo l) (ord_ok l n).2.2 (Nat.zero_le _) (Nat.le_of_lt hij) hj
theorem ord_inj (l : List Pt) (n : Nat) {i j : Nat} (hij : i < j) (hj : j < n) : gd (ordL (ltI l) n) i ≠ gd (ordL (ltI l) n) j := srt_inj (ltI_wo l) (ord_ok l n).2.2 i j hij hj
theorem ord_lt (l : List Pt) (n : Nat) {k : Nat} (hk : k < n) : gd (ordL (ltI l) n) k < n := gd_mem (ord_ok l n).2.1 (by rw [(ord_ok l n).1]; exact hk)
/-- what is in order stays -/
theorem ord_again (l : List Pt) (n : Nat) : ordL (ltI (sortedL l n)) n = List.range n := by
  obtain ⟨h1, h2, h3⟩ := ord_ok (sortedL l n) n
  refine gd_ext (by rw [h1, List.length_range]) fun k hk => ?_
  rw [h1] at hk
  rw [gd_range hk]
  refine srt_uni (ltI_wo (sortedL l n)) (g := fun k => k) (fun k hk => gd_mem h2 (by rw [h1]; exact hk)) (fun k hk => hk) h3 (fun i j _ hij hj => ?_) k hk
  have q := ord_le l n hij hj
  have e : ltI (sortedL l n) j i = false := by rw [← q]; exact ltI_eq (sorted_at hj) (sorted_at (by omega))
  by_cases c : ltI (sortedL l n) i j = true
  · exact .inl c
  · exact .inr ⟨e, hij⟩
theorem key_len5 (p : Pt) : (key p).length = 5 := rfl
theorem ltI_key {l : List Pt} {i j : Nat} (h1 : ltI l i j = false) (h2 : ltI l j i = false) : key (l.getD i pt0) = key (l.getD j pt0) := by
  unfold ltI ordP at h1 h2
  rw [show (⟨0, 0, 0, 0, 0⟩ : Pt) = pt0 from rfl] at h1 h2
  rw [decide_eq_false_iff_not] at h1 h2
  have e : (key (l.getD i pt0)).length = (key (l.getD j pt0)).length := by rw [key_len5, key_len5]
  have := cmpL_anti (key (l.getD i pt0)) (key (l.getD j pt0)) e
  exact cmpL_zero e (by omega)
/-- turned about they come to the same -/
theorem turned_same {l : List Pt} (hl : ∀ p ∈ l, PtLt p) {n c k : Nat} (hc : c < 2 * n) (hk : k < n) :
    IsP ((turnedL l n c).getD (gd (ordL (ltI (turnedL l n c)) n) k) pt0) ((sortedL l n).getD k pt0) := by
  have tm : ∀ k, k < n → gd (ordL (ltI (turnedL l n c)) n) k < n := fun k hk => ord_lt _ n hk
  rw [turned_at (tm k hk), sorted_at hk]
  have fs : ∀ i j, i < j → j < n → ltI l (rot n c (gd (ordL (ltI (turnedL l n c)) n) j)) (rot n c (gd (ordL (ltI (turnedL l n c)) n) i)) = false := fun i j hij hj => by
    rw [← ord_le (turnedL l n c) n hij hj]
    exact (ltI_eq (turned_at (tm j hj)) (turned_at (tm i (by omega)))).symm
  have A := kth (ltI_wo l) (n := n) (f := fun k => rot n c (gd (ordL (ltI (turnedL l n c)) n) k)) (g := gd (ordL (ltI l) n)) (fun k hk => rot_lt hc (tm k hk)) (fun k hk => ord_lt l n hk)
    (fun i j hij hj => rot_inj hc (tm i (by omega)) (tm j hj) (ord_inj _ n hij hj)) (fun i j hij hj => ord_inj l n hij hj) fs (fun i j hij hj => ord_le l n hij hj) hk
  have B := kth (ltI_wo l) (n := n) (g := fun k => rot n c (gd (ordL (ltI (turnedL l n c)) n) k)) (f := gd (ordL (ltI l) n)) (fun k hk => ord_lt l n hk) (fun k hk => rot_lt hc (tm k hk))
    (fun i j hij hj => ord_inj l n hij hj) (fun i j hij hj => rot_inj hc (tm i (by omega)) (tm j hj) (ord_inj _ n hij hj)) (fun i j hij hj => ord_le l n hij hj) fs hk
  exact key_inj (getD_lt hl _) (getD_lt hl _) (ltI_key A B)
theorem head_le {A B : List Nat} {a b : Nat} (h : ¬ cmpL (b :: B) (a :: A) < 0) : a ≤ b := by
  rw [cmpL] at h
  rcases cmpN_val b a with ⟨h1, h2⟩ | ⟨h1, h2⟩ | ⟨h1, h2⟩
  · rw [if_neg (by omega)] at h; omega
  · omega
  · omega
/-- powers fall -/
theorem sorted_pw {l : List Pt} (hl : ∀ p ∈ l, PtLt p) {n k : Nat} (hk : k + 1 < n) : cgt ((sortedL l n).getD (k + 1) pt0).power ((sortedL l n).getD k pt0).power = false ∧ (Nan ((sortedL l n).getD k pt0).power → Nan ((sortedL l n).getD (k + 1) pt0).power) := by
  have q := ord_le l n (i := k) (j := k + 1) (by omega) hk
  rw [sorted_at hk, sorted_at (show k < n by omega)]
  unfold ltI ordP key at q
  rw [show (⟨0, 0, 0, 0, 0⟩ : Pt) = pt0 from rfl, decide_eq_false_iff_not] at q
  exact pw_le (getD_lt hl _).power (getD_lt hl _).power (head_le q)
end Go.Proofs.Ytdngkeefbpffcaa
