import Derived.Test.YtgdkmakmdomdbaaPnWk
import Derived.Test.YtgdkmakmdomdbaaPnT2
set_option autoImplicit false
set_option linter.unusedVariables false
namespace Go.Proofs.Ytgdkmakmdomdbaa
open Go.RowKit Lk Pn
def tkl (t : Tk) : List Value := [.int .i64 t.ev, .int .i64 t.lg, .int .i64 t.rk]
def flatT (l : List Tk) : List Value := l.flatMap tkl
theorem flatT_len (l : List Tk) : (flatT l).length = l.length * 3 := by
  unfold flatT; rw [List.length_flatMap]
  induction l with
  | nil => rfl
  | cons a l ih => rw [List.map_cons, List.sum_cons, List.length_cons, ih]; simp only [tkl, List.length_cons, List.length_nil]; omega
theorem flatT_get {l : List Tk} {j : Nat} {t : Tk} (h : l[j]? = some t) {q : Nat} {u : Value} (hu : (tkl t)[q]? = some u) : (flatT l)[j * 3 + q]? = some u := by
  induction l generalizing j with
  | nil => simp at h
  | cons a l ih =>
    have e : flatT (a :: l) = tkl a ++ flatT l := by simp [flatT]
    rw [e]
    have hq : q < 3 := by have := (List.getElem?_eq_some_iff.1 hu).1; simpa [tkl] using this
    cases j with
    | zero =>
      simp only [List.getElem?_cons_zero, Option.some.injEq] at h
      subst h
      rw [List.getElem?_append_left (by simp [tkl]; omega), ← hu]; simp
    | succ j =>
      rw [List.getElem?_cons_succ] at h
      rw [List.getElem?_append_right (by simp [tkl]; omega)]
      rw [show (j + 1) * 3 + q - (tkl a).length = j * 3 + q by simp [tkl]; omega]
      exact ih h
theorem flatT_snoc (l : List Tk) (t : Tk) : flatT (l ++ [t]) = flatT l ++ tkl t := by simp [flatT]
theorem Try.und22 : Try.prog.underlying 22 = some (.slice 26) := by kernel_rfl
theorem task_info : (Try.prog.info? 26).map (fun i => (i.zero.map (fun z => z.cells.size), i.size, i.bytes)) = some (some 3, 3, 24) := by kernel_rfl
theorem tkl_one (t : Tk) : ∀ u ∈ tkl t, u.oneCell' = true := by
  intro u hu
  simp only [tkl, List.mem_cons, List.not_mem_nil, or_false] at hu
  rcases hu with rfl | rfl | rfl <;> rfl
/-- a slice of one's own is tasks -/
theorem ts_own {w : World} {B n : Nat} {v : Value} {L : List Tk} (h : w.ownsRow B 26 3 v n (flatT L)) : ∃ a cap, v = .slice a n cap ∧ Ts w a n cap L := by
  have hl := h.1
  rw [flatT_len] at hl
  rcases h.2 with ⟨rfl, h0⟩ | ⟨g, cap, cur, rfl, hB, hb, h1, h2, _, h3⟩
  · subst h0; exact ⟨none, 0, rfl, by omega, Nat.le_refl _, by omega, .inl rfl⟩
  · refine ⟨_, cap, rfl, by omega, h1, by unfold maxLen at h2; omega, .inr ⟨g, 0, rfl, (Array.getElem?_eq_some_iff.1 hb).1, fun j t ht => ?_⟩⟩
    have hj := (List.getElem?_eq_some_iff.1 ht).1
    have get : ∀ q u, q < 3 → (tkl t)[q]? = some u → w.cell? ⟨g, 0 + j * 3 + q, none⟩ = some u := fun q u hq hu => by
      rw [blk_cell hb]
      have := flatT_get ht hu
      rw [← h3, List.getElem?_take] at this
      rw [if_pos (by omega)] at this
      rw [← this]; simp
    exact ⟨get 0 _ (by omega) rfl, get 1 _ (by omega) rfl, get 2 _ (by omega) rfl⟩
/-! few -/
def fewE (m x : Int) : Int := x.tmod m % m + 1
def fewT (m : Int) (t : Tk) : Tk := ⟨fewE m t.ev, fewE (fewE m t.ev) t.lg, t.rk⟩
def fewK (m : Int) (L : List Tk) (k : Nat) : List Tk := (L.take k).map (fewT m)
theorem fewE_bd (m x : Int) (h : 1 ≤ m) : 1 ≤ fewE m x ∧ fewE m x ≤ m := by
  unfold fewE
  have := Int.emod_nonneg (x.tmod m) (b := m) (by omega)
  have := Int.emod_lt_of_pos (x.tmod m) (b := m) (by omega)
  omega
theorem tm_bd (n m : Int) (hm : 0 < m) : -m < n.tmod m ∧ n.tmod m < m := by
  have h1 := Int.tmod_lt_of_pos n hm
  have h2 := Int.lt_tmod_of_pos n hm
  omega
theorem fewK_snoc {m : Int} {L : List Tk} {k : Nat} {t : Tk} (h : L[k]? = some t) : fewK m L (k + 1) = fewK m L k ++ [fewT m t] := by
  unfold fewK; rw [List.take_add_one, h]; simp
theorem fewK_len {m : Int} {L : List Tk} {k : Nat} (h : k ≤ L.length) : (fewK m L k).length = k := by unfold fewK; simp; omega
theorem fewK_may {m : Int} {L : List Tk} {k : Nat} (h1 : 1 ≤ m) (h2 : m ≤ 1000) : ∀ t ∈ fewK m L k, mayT t = true ∧ t.ev ≤ m := by
  intro t ht
  obtain ⟨u, _, rfl⟩ := List.mem_map.1 ht
  obtain ⟨a, b⟩ := fewE_bd m u.ev h1
  obtain ⟨c, d⟩ := fewE_bd (fewE m u.ev) u.lg a
  exact ⟨mayT_iff.2 ⟨a, by simp only [fewT]; omega, c, d⟩, b⟩
structure FR (m : Int) (L : List Tk) (w wr : World) (v : Value) (k : Nat) : Prop where
  own : wr.ownsRow w.heap.size 26 3 v k (flatT (fewK m L k))
  b : Below w.heap.size w wr
theorem tkl_cells {w : World} {g : Nat} {t : Tk} (h : w.heap[g]? = some (.cells #[.int .i64 t.ev, .int .i64 t.lg, .int .i64 t.rk] 26 (0, 0))) : ∀ j u, (tkl t)[j]? = some u → w.cell? ((⟨g, 0, none⟩ : Addr).add j) = some u := by
  intro j u hu
  rw [Addr.add_lit]
  simp only [World.cell?, h, Nat.zero_add]
  simpa [tkl] using hu
theorem FR.next {m : Int} {L : List Tk} {w wr w5 : World} {v v' : Value} {k : Nat} {t : Tk} {ob : Obj} (h : FR m L w wr v k) (hx : L[k]? = some t) (hk : k < 12) (gr : (wr.alloc ob).grownBy w5 v.ownBlock) (ow : w5.ownsRow w.heap.size 26 3 v' (k + 1) (flatT (fewK m L k) ++ tkl (fewT m t))) : FR m L w w5 v' (k + 1) := by
  refine ⟨by rw [fewK_snoc hx, flatT_snoc]; exact ow, ?_⟩
  have b1 := h.b.trans (((Below.refl wr.heap.size wr).alloc (Nat.le_refl _) ob).mono h.b.size)
  refine b1.trans ⟨gr.os, gr.tape, gr.output, gr.size, fun i hi => gr.block i (by have := b1.size; omega) fun e => ?_⟩
  have := (h.own.lt i e.symm).1
  omega
set_option maxRecDepth 100000 in
set_option maxHeartbeats 4000000 in
theorem few_walk (m : Int) (m1 : 1 ≤ m) (m2 : m ≤ 1000) (a : Option Addr) (n cap : Nat) (L : List Tk) (w : World) (ts : Ts w a n cap L) : Calls Try.prog 20 #[.slice a n cap, .int .i64 m] w (fun e w' => ∃ v, e = .returned v ∧ w'.ownsRow w.heap.size 26 3 v (min n 12) (flatT (fewK m L (min n 12))) ∧ Below w.heap.size w w') := by
  obtain ⟨I, Z, hi, hz, hsz, hby, hzs⟩ := info5 task_info
  have n63 : n ≤ 9223372036854775807 := Nat.le_trans ts.le ts.small
  have HT := Lib.hid ts
  clear ts
  go_enter Try.func20, Try.ntmps20
  go_wp2_with fail
  go_loopw [5, 6] (fun v i wr => ∃ k : Nat, i = .int .i64 k ∧ k ≤ n ∧ k ≤ 12 ∧ FR m L w wr v k) (fun _ i _ => n - (intOf i).toNat)
  case atStart => exact ⟨0, rfl, by omega, by omega, ⟨World.ownsRow_nil _ _ _ _, Below.refl _ _⟩⟩
  case round =>
    obtain ⟨k, rfl, hk, h12, R⟩ := hrel
    obtain ⟨oa, oc, rfl, q1, q2⟩ := own_form R.own
    have HR := Lib.hid R
    clear R
    by_cases hlt : k < n
    · by_cases hl2 : k < 12
      · obtain ⟨b, off, t, rfl, hb1, hx, A⟩ := (HT.out.keep HR.out.b).at hlt
        have c0 := A.c0
        have c1 := A.c1
        have c2 := A.c2
        have HX := Lib.hid hx
        have hnc := HT.out.le
        have hcs := HT.out.small
        have t1 := tm_bd t.ev m (by omega)
        have E1 := fewE_bd m t.ev m1
        have t2 := tm_bd t.lg (fewE m t.ev) (by omega)
        have E2 := fewE_bd (fewE m t.ev) t.lg E1.1
        have FT := Lib.hid (show fewT m t = ⟨t.ev.tmod m % m + 1, t.lg.tmod (t.ev.tmod m % m + 1) % (t.ev.tmod m % m + 1) + 1, t.rk⟩ from rfl)
        unfold fewE at E1 t2 E2
        generalize hq1 : t.ev.tmod m = x1 at *
        generalize hq2 : x1 % m = x2 at *
        generalize hq3 : t.lg.tmod (x2 + 1) = x3 at *
        generalize hq4 : x3 % (x2 + 1) = x4 at *
        have zb : w.heap.size ≤ wr.heap.size := HR.out.b.size
        have hk3 : (k : Int) < 12 := by omega
        clear A hx
        go_wp2_with (refine wpList_append_own_at _ rfl (.tmp 43) (.tmp 52) 22 rfl w.heap.size 26 I Z 3 24 Try.und22 hi hz hsz hby hzs (by decide) (.slice oa k oc) k (flatT (fewK m L k)) rfl (HR.out.own.alloc _) ⟨wr.heap.size, 0, none⟩ 1 1 (tkl (fewT m t)) rfl (by rw [FT.out]; rfl) (tkl_cells (by rw [FT.out]; exact Deep.blk_alloc_new wr _)) (tkl_one _) (by simp only [maxLen]; omega) (by omega) (by rw [al_size]; omega) ?_; intro v5 w5 ow gr _ hat; have NX := Lib.hid (HR.out.next HX.out (by omega) gr ow); obtain ⟨a5, c5, rfl, _⟩ := own_form ow; clear ow gr hat)
        go_roundw
        case rel => exact ⟨k + 1, rfl, by omega, by omega, NX.out⟩
        case measure => simp only [intOf]; omega
      · have hk3 : ¬ (k : Int) < 12 := by omega
        have e12 : k = min n 12 := by omega
        go_wp2_with fail
        go_ret
        exact ⟨_, rfl, by rw [← e12]; exact HR.out.own, HR.out.b⟩
    · have e12 : k = min n 12 := by omega
      go_wp2_with fail
      go_ret
      exact ⟨_, rfl, by rw [← e12]; exact HR.out.own, HR.out.b⟩
end Go.Proofs.Ytgdkmakmdomdbaa
