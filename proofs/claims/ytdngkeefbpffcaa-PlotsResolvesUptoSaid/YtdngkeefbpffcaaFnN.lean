import Derived.Test.YtdngkeefbpffcaaFnS
import Derived.OwnWalk
set_option autoImplicit false
set_option linter.unusedVariables false
namespace Go.Proofs.Ytdngkeefbpffcaa
open Go.RowKit Lk Fo
theorem al (w : World) (o : Obj) (g : Nat) : (w.alloc o).heap[g]? = if g = w.heap.size then some o else w.heap[g]? := Array.getElem?_push
/-! pairs, a list of them in memory -/
def flatP (l : List (Int × Int)) : List Value := l.flatMap fun p => [.int .i64 p.1, .int .i64 p.2]
theorem flatP_snoc (l : List (Int × Int)) (p : Int × Int) : flatP (l ++ [p]) = flatP l ++ [.int .i64 p.1, .int .i64 p.2] := by simp [flatP]
theorem flatP_len : ∀ l : List (Int × Int), (flatP l).length = l.length * 2
  | [] => rfl
  | p :: l => by
    have := flatP_len l
    simp only [flatP, List.flatMap_cons, List.length_append, List.length_cons, List.length_nil] at this ⊢
    omega
theorem flatP_at : ∀ (l : List (Int × Int)) (j : Nat) (p : Int × Int), l[j]? = some p → (flatP l)[j * 2]? = some (.int .i64 p.1) ∧ (flatP l)[j * 2 + 1]? = some (.int .i64 p.2)
  | [], j, p, h => by simp at h
  | q :: l, 0, p, h => by simp at h; subst h; exact ⟨rfl, rfl⟩
  | q :: l, j + 1, p, h => by
    have := flatP_at l j p (by simpa using h)
    have e : flatP (q :: l) = [.int .i64 q.1, .int .i64 q.2] ++ flatP l := rfl
    rw [e, List.getElem?_append_right (by simp; omega), List.getElem?_append_right (by simp; omega)]
    simp only [List.length_cons, List.length_nil]
    rw [show (j + 1) * 2 - (0 + 1 + 1) = j * 2 by omega, show (j + 1) * 2 + 1 - (0 + 1 + 1) = j * 2 + 1 by omega]
    exact this
structure Prs (w : World) (v : Value) (l : List (Int × Int)) : Prop where
  small : l.length ≤ 8
  cells : (v = .slice none 0 0 ∧ l = []) ∨ ∃ g cap, v = .slice (some ⟨g, 0, none⟩) l.length cap ∧ g < w.heap.size ∧ ∀ j p, l[j]? = some p → w.cell? ⟨g, j * 2, none⟩ = some (.int .i64 p.1) ∧ w.cell? ⟨g, j * 2 + 1, none⟩ = some (.int .i64 p.2)
theorem Prs.keep {w w' : World} {v : Value} {l : List (Int × Int)} (h : Prs w v l) (b : Below w.heap.size w w') : Prs w' v l :=
  ⟨h.small, h.cells.imp id fun ⟨g, cap, hv, hg, hc⟩ => ⟨g, cap, hv, Nat.lt_of_lt_of_le hg b.size, fun j p hj => ⟨(b.cell (p := ⟨g, j * 2, none⟩) hg).trans (hc j p hj).1, (b.cell (p := ⟨g, j * 2 + 1, none⟩) hg).trans (hc j p hj).2⟩⟩⟩
theorem prs_of {w : World} {B n : Nat} {v : Value} {l : List (Int × Int)} (h : w.ownsRow B 101 2 v n (flatP l)) (hn : l.length = n) (h8 : n ≤ 8) : Prs w v l := by
  have h' := h
  refine ⟨by omega, ?_⟩
  rcases h.2 with ⟨rfl, rfl⟩ | ⟨g, cap, cur, rfl, _, hg, hc, _⟩
  · exact .inl ⟨rfl, List.eq_nil_of_length_eq_zero hn⟩
  · refine .inr ⟨g, cap, by rw [hn], (Array.getElem?_eq_some_iff.1 hg).1, fun j p hj => ?_⟩
    have hjn : j < n := by have := (List.getElem?_eq_some_iff.1 hj).1; omega
    obtain ⟨a, b⟩ := flatP_at l j p hj
    exact ⟨(h'.cellAt (j * 2) (by omega)).trans a, (h'.cellAt (j * 2 + 1) (by omega)).trans b⟩
/-! how far, at most -/
def farL (x : Int) : List (Int × Int) → Int → Int
  | [], s => s
  | (r, m) :: l, s => farL x l (max s (frD x r m))
def rdy (l : List (Int × Int)) : List (Int × Int) := l.map fun p => (p.1 % p.2, p.2)
theorem farL_rdy (x : Int) : ∀ (l : List (Int × Int)) (s : Int), farL x (rdy l) s = farL x l s
  | [], s => rfl
  | (r, m) :: l, s => by
    show farL x (rdy l) (max s (frD x (r % m) m)) = farL x l (max s (frD x r m))
    rw [frD_mod, farL_rdy x l]
def Okm (l : List (Int × Int)) : Prop := ∀ p ∈ l, 1 ≤ p.2 ∧ p.2 ≤ 1099511627776
theorem farL_bounds (x : Int) : ∀ (l : List (Int × Int)) (s : Int), Okm l → 0 ≤ s → s ≤ 1099511627776 → 0 ≤ farL x l s ∧ farL x l s ≤ 1099511627776
  | [], s, _, h0, h1 => ⟨h0, h1⟩
  | (r, m) :: l, s, h, h0, h1 => by
    have hm := h (r, m) (List.mem_cons_self ..)
    simp only at hm
    have b := frD_bounds (x := x) (r := r) hm.1
    exact farL_bounds x l (max s (frD x r m)) (fun p hp => h p (List.mem_cons_of_mem _ hp)) (by omega) (by omega)
/-- in range of what is reckoned with -/
def Okr (l : List (Int × Int)) : Prop := ∀ p ∈ l, (1 ≤ p.2 ∧ p.2 ≤ 1099511627776) ∧ (0 ≤ p.1 ∧ p.1 < p.2)
theorem ip_info : (Try.prog.info? 101).map (fun i => (i.zero, i.size, i.bytes)) = some (some (.agg #[.int .i64 0, .int .i64 0]), 2, 16) := by kernel_rfl
theorem und47 : Try.prog.underlying 79 = some (.slice 101) := by kernel_rfl
theorem min_form {a b : Int} : (if b < a then b else a) = min a b := by split <;> omega
theorem max_form {a b : Int} : (if a < b then b else a) = max a b := by split <;> omega
set_option maxHeartbeats 2000000 in
theorem far_walk (x : Int) (v : Value) (l : List (Int × Int)) (w : World) (x0 : 0 ≤ x) (x1 : x ≤ 4194304) (hp : Prs w v l) (ho : Okr l) : Calls Try.prog 50 #[.int .i64 x, v] w (fun e w' => e = .returned (.int .i64 (farL x l 0)) ∧ Below w.heap.size w w') := by
  have HO := Lib.hid ho
  clear ho
  rcases hp.cells with ⟨rfl, rfl⟩ | ⟨g, cap, rfl, hg, hc⟩
  · clear hp
    go_enter Try.func50, Try.ntmps50
    go_wp2_with fail
    go_loopw [5, 11] (fun s i wr => i = .int .i64 0 ∧ s = .int .i64 0 ∧ Below w.heap.size w wr) (fun _ _ _ => 0)
    case atStart => exact ⟨rfl, rfl, Below.refl _ _⟩
    case round =>
      obtain ⟨rfl, rfl, hb⟩ := hrel
      go_wp2_with fail
      go_ret
      exact ⟨rfl, hb⟩
  · have hs := hp.small
    have HC := Lib.hid hc
    clear hp hc
    obtain ⟨n, hn⟩ : ∃ n, n = l.length := ⟨_, rfl⟩
    rw [← hn] at hs ⊢
    have HN := Lib.hid hn
    clear hn
    go_enter Try.func50, Try.ntmps50
    go_wp2_with fail
    go_loopw [5, 11] (fun s i wr => ∃ (k : Nat) (t : Int), k ≤ n ∧ i = .int .i64 k ∧ s = .int .i64 t ∧ (0 ≤ t ∧ t ≤ 1099511627776) ∧ farL x (l.drop k) t = farL x l 0 ∧ Below w.heap.size w wr) (fun _ i _ => n - (intOf i).toNat)
    case atStart => exact ⟨0, 0, Nat.zero_le _, rfl, rfl, by omega, rfl, Below.refl _ _⟩
    case round =>
      obtain ⟨k, t, hk, rfl, rfl, ⟨t0, t1⟩, hj, hb⟩ := hrel
      have HJ := Lib.hid hj
      have HB := Lib.hid hb
      have zz := hb.size
      clear hj hb
      by_cases hlt : k < n
      · have hk64 : (k : Int) < (n : Int) := by omega
        have hkl : k < l.length := by have := HN.out; omega
        obtain ⟨⟨r, m⟩, hp⟩ : ∃ p, l[k]? = some p := ⟨_, List.getElem?_eq_getElem hkl⟩
        have D : Hid (l.drop k = (r, m) :: l.drop (k + 1)) := Lib.hid (by
          rw [List.drop_eq_getElem_cons hkl]
          congr 1
          rw [List.getElem?_eq_getElem hkl] at hp
          exact Option.some.inj hp)
        obtain ⟨⟨m1, m2⟩, r1, r2⟩ := HO.out (r, m) (List.mem_of_getElem? hp)
        obtain ⟨d1, d2⟩ := HC.out k (r, m) hp
        simp only at m1 m2 r1 r2 d1 d2
        have D1 : wr.cell? ⟨g, k * 2, none⟩ = some (.int .i64 r) := (HB.out.cell (p := ⟨g, k * 2, none⟩) hg).trans d1
        have D2 : wr.cell? ⟨g, k * 2 + 1, none⟩ = some (.int .i64 m) := (HB.out.cell (p := ⟨g, k * 2 + 1, none⟩) hg).trans d2
        clear d1 d2 hp hkl
        have FR : Hid (frD x r m = min ((x - r) % m) (m - (x - r) % m)) := rfl
        have FB := Lib.hid (frD_bounds (x := x) (r := r) m1)
        have q0 := Int.emod_nonneg (x - r) (show m ≠ 0 by omega)
        have q1 := Int.emod_lt_of_pos (x - r) (show 0 < m by omega)
        have hw1 : wrap64 (x - r) = x - r := wrap_self (by omega) (by omega)
        have hw2 : wrap64 (m - (x - r) % m) = m - (x - r) % m := wrap_self (by omega) (by omega)
        go_wp2_with (refine wpList_store_new rfl (ty := 101) (x := .tmp 7) (y := .tmp 14) rfl (g := wr.heap.size) rfl rfl (t := 101) (old := #[.int .i64 0, .int .i64 0]) (by rw [al, if_pos rfl]) (by kernel_rfl) rfl (by simp [Value.oneCell']) (B := wr.heap.size) (w0 := wr) (by (repeat' (first | exact Below.refl _ _ | refine below_drewN ?_ _ | refine Below.setCell ?_ (by first | exact Nat.le_refl _ | (simp; done) | (simp; omega)) _ | refine Below.alloc ?_ (by first | exact Nat.le_refl _ | (simp; done) | (simp; omega)) _))) (Nat.le_refl _) ?_; intro w4 hg4 hb4 hz4 ho4; have p0 : w4.cell? ⟨wr.heap.size, 0, none⟩ = some (.int .i64 r) := cell_of_heap hg4 0; have p1 : w4.cell? ⟨wr.heap.size, 1, none⟩ = some (.int .i64 m) := cell_of_heap hg4 1; have HB4 := Lib.hid (HB.out.trans (hb4.mono zz)); clear hg4 hb4 hz4 ho4)
        refine (fmod_walk (x - r) m _ (by omega) (by omega) m1 (by omega)).mono ?_; rintro e w5 ⟨rfl, rfl⟩
        go_wp2_with fail
        go_roundw
        case rel =>
          refine ⟨k + 1, max t (frD x r m), by omega, by go_num, ?_, by have := FB.out; omega, ?_, HB4.out⟩
          · rw [FR.out]; simp only [min_form, max_form]
          · rw [← HJ.out, D.out]; rfl
        case measure => simp [intOf]; omega
      · obtain rfl : k = n := by omega
        go_wp2_with fail
        go_ret
        refine ⟨ret_int ?_, HB.out⟩
        rw [← HJ.out, List.drop_eq_nil_of_le (by have := HN.out; omega)]
        rfl
end Go.Proofs.Ytdngkeefbpffcaa
