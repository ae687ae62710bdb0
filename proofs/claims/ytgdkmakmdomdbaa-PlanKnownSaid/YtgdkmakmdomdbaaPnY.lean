import Derived.Test.YtgdkmakmdomdbaaPnU
import Derived.Test.YtgdkmakmdomdbaaPnS
import Derived.Test.YtgdkmakmdomdbaaPnD
import Derived.Test.YtgdkmakmdomdbaaFlO
import Derived.Laws.MakeOwn
import Derived.Laws.OwnMore
set_option autoImplicit false
set_option linter.unusedVariables false
namespace Go.Proofs.Ytgdkmakmdomdbaa
open Go.RowKit Lk Pn
def tkc (t : Tk) : Array Value := #[.int .i64 t.ev, .int .i64 t.lg, .int .i64 t.rk]
theorem tkc_one (t : Tk) : (tkc t).all (·.oneCell') = true := by simp [tkc, Value.oneCell']
theorem PAx.setT {Y : Ly} {w w2 : World} {S : Nat → Prop} {p lb cap : Nat} {vs : List Value} {st : Pl} (h : PAx Y w S p lb cap vs st) {k : Nat} {x : Ln} (hx : st.l[k]? = some x) (t : Tk) {cur : Array Value} (hc : w.heap[lb]? = some (.cells cur Y.tl (0, 0)))
    (h2 : w2.heap[lb]? = some (.cells (putAll cur (k * 6) (tkc t).toList) Y.tl (0, 0))) (on : Only lb w w2) : PAx Y w2 S p lb cap vs ⟨st.l.set k { x with t := t }, st.now⟩ := by
  obtain ⟨v, hv, A, W⟩ := h.ln hx
  have q := h.turn (w' := w2) (S' := S) (x' := { x with t := t }) (v' := v) hx hv ?_ (W.of_block fun g hg => on.block g (h.sv k v g hv hg).2.2) (fun g hg => .inl hg) (fun i _ hi _ => on.block i hi) (fun _ h => h) (fun i hi => by rw [on.size]; exact h.inS i hi)
  · rwa [set_same hv] at q
  · obtain ⟨cur0, e1, e2⟩ := h.bl
    rw [hc] at e1
    cases e1
    obtain ⟨a, b, c, d, e, f⟩ := e2 k x v hx hv
    have hs : k * 6 + 6 ≤ cur.size := by have := (Array.getElem?_eq_some_iff.1 f).1; omega
    have get : ∀ i, (putAll cur (k * 6) (tkc t).toList)[i]? = if k * 6 ≤ i ∧ i < k * 6 + 3 then (tkc t).toList[i - k * 6]? else cur[i]? := fun i => putAll_get _ _ _ _ (by simp [tkc]; omega)
    refine ⟨cur, _, hc, h2, fun o ho => by rw [get, if_neg (by omega)], ?_⟩
    constructor <;> rw [get]
    · rw [if_pos (by omega)]; simp [tkc]
    · rw [if_pos (by omega)]; simp [tkc]
    · rw [if_pos (by omega)]; simp [tkc]
    · rw [if_neg (by omega)]; exact d
    · rw [if_neg (by omega)]; exact e
    · rw [if_neg (by omega)]; exact f
/-- a slice of tasks -/
structure At3 (w : World) (b o : Nat) (t : Tk) : Prop where
  c0 : w.cell? ⟨b, o, none⟩ = some (.int .i64 t.ev)
  c1 : w.cell? ⟨b, o + 1, none⟩ = some (.int .i64 t.lg)
  c2 : w.cell? ⟨b, o + 2, none⟩ = some (.int .i64 t.rk)
theorem At3.of_block {w w' : World} {b o : Nat} {t : Tk} (h : At3 w b o t) (e : w'.heap[b]? = w.heap[b]?) : At3 w' b o t :=
  ⟨(World.cell?_of_block e).trans h.c0, (World.cell?_of_block e).trans h.c1, (World.cell?_of_block e).trans h.c2⟩
structure Ts (w : World) (a : Option Addr) (n cap : Nat) (L : List Tk) : Prop where
  len : L.length = n
  le : n ≤ cap
  small : cap ≤ 9223372036854775807
  cells : n = 0 ∨ ∃ b off, a = some ⟨b, off, none⟩ ∧ b < w.heap.size ∧ ∀ (j : Nat) t, L[j]? = some t → At3 w b (off + j * 3) t
theorem Ts.keep {w w' : World} {a : Option Addr} {n cap : Nat} {L : List Tk} (h : Ts w a n cap L) (b : Below w.heap.size w w') : Ts w' a n cap L :=
  ⟨h.len, h.le, h.small, h.cells.imp id fun ⟨g, off, ha, hg, hc⟩ => ⟨g, off, ha, Nat.lt_of_lt_of_le hg b.size, fun j t ht => (hc j t ht).of_block (b.block g hg)⟩⟩
theorem Ts.at {w : World} {a : Option Addr} {n cap : Nat} {L : List Tk} (h : Ts w a n cap L) {k : Nat} (hk : k < n) : ∃ b off t, a = some ⟨b, off, none⟩ ∧ b < w.heap.size ∧ L[k]? = some t ∧ At3 w b (off + k * 3) t := by
  rcases h.cells with h0 | ⟨b, off, ha, hb, hc⟩
  · omega
  · have hl : k < L.length := by rw [h.len]; exact hk
    exact ⟨b, off, L[k], ha, hb, List.getElem?_eq_getElem hl, hc k _ (List.getElem?_eq_getElem hl)⟩
/-! Set -/
def SetP (S : Nat → Prop) (p lb cap : Nat) (st : Pl) (i : Int) (t : Tk) (w : World) (e : Ending) (w' : World) : Prop :=
  e = .returned (.int .i64 (setP st i t).2) ∧ (∃ vs', PAx cY w' (Sx S w w') p lb cap vs' (setP st i t).1) ∧ Fr S w w'
theorem setP_no {st : Pl} {i : Int} {t : Tk} (h : i < 0 ∨ (st.l.length : Int) ≤ i ∨ mayT t = false) : setP st i t = (st, 240) := by
  unfold setP
  rw [if_pos]
  simp only [Bool.or_eq_true, decide_eq_true_eq, Bool.not_eq_true']
  rcases h with h | h | h
  · exact .inl (.inl h)
  · exact .inl (.inr h)
  · exact .inr h
theorem setP_yes {st : Pl} {i : Int} {t : Tk} (h1 : ¬ i < 0) (h2 : ¬ (st.l.length : Int) ≤ i) (h3 : mayT t = true) : setP st i t = (⟨setL (rel st.now st.l) i (fun x => { x with t := t }), st.now⟩, 0) := by
  unfold setP
  rw [if_neg]
  simp [h1, h2, h3]
set_option maxRecDepth 100000 in
set_option maxHeartbeats 2000000 in
theorem set_walk (M : Nat) (hM : M ≤ 4194304) (p lb cap : Nat) (vs : List Value) (S : Nat → Prop) (st : Pl) (i : Int) (t : Tk) (w : World) (h : PAx cY w S p lb cap vs st) (inv : Inv M st) :
    Calls Try.prog 19 #[.pointer (some ⟨p, 0, none⟩), .int .i64 i, .agg #[.int .i64 t.ev, .int .i64 t.lg, .int .i64 t.rk]] w (SetP S p lb cap st i t w) := by
  have MW := fun (B : Bool) (hB : B = mayT t) (w : World) => may_walk t B hB w
  have p0 := h.p0
  have p1 := h.p1
  have pl := h.plt
  have n0 := inv.n0
  have n1 := inv.n1
  have H := Lib.hid h
  have IV := Lib.hid inv
  obtain ⟨n, hn⟩ : ∃ n, n = st.l.length := ⟨_, rfl⟩
  rw [← hn] at p0
  have HN := Lib.hid hn
  obtain ⟨now, hnow⟩ : ∃ now, now = st.now := ⟨_, rfl⟩
  rw [← hnow] at p1 n0 n1
  have HW := Lib.hid hnow
  obtain ⟨mt, hmt⟩ : ∃ mt, mt = mayT t := ⟨_, rfl⟩
  have HMT := Lib.hid hmt
  have MW1 := Lib.hid (MW mt hmt)
  have HT : Hid (∃ t0, t0 = t) := Lib.hid ⟨_, rfl⟩
  have no : ∀ w', Below w.heap.size w w' → setP st i t = (st, 240) → SetP S p lb cap st i t w (.returned (.int .i64 240)) w' := fun w' b e => by
    unfold SetP
    rw [e]
    exact ⟨rfl, ⟨vs, (H.out.start.below b).up b.size⟩, Fr.of_below b⟩
  have NO := Lib.hid no
  clear h inv hn hnow hmt MW no
  by_cases h1 : i < 0
  · have E := Lib.hid (setP_no (st := st) (t := t) (.inl h1))
    go_enter Try.func19, Try.ntmps19
    go_wp2_with fail
    go_ret
    exact NO.out _ (by (repeat' (first | exact Below.refl _ _ | refine below_drewN ?_ _ | refine Below.setCell ?_ (by first | exact Nat.le_refl _ | (simp; done) | (simp; omega)) _ | refine Below.alloc ?_ (by first | exact Nat.le_refl _ | (simp; done) | (simp; omega)) _))) E.out
  · have E1 := Lib.hid h1
    by_cases h2 : (n : Int) ≤ i
    · have E := Lib.hid (setP_no (st := st) (t := t) (.inr (.inl (by rw [← HN.out]; exact h2))))
      go_enter Try.func19, Try.ntmps19
      go_wp2_with fail
      go_ret
      exact NO.out _ (by (repeat' (first | exact Below.refl _ _ | refine below_drewN ?_ _ | refine Below.setCell ?_ (by first | exact Nat.le_refl _ | (simp; done) | (simp; omega)) _ | refine Below.alloc ?_ (by first | exact Nat.le_refl _ | (simp; done) | (simp; omega)) _))) E.out
    · have E2 := Lib.hid h2
      cases mt with
      | false =>
        have E := Lib.hid (setP_no (st := st) (i := i) (t := t) (.inr (.inr HMT.out.symm)))
        go_enter Try.func19, Try.ntmps19
        go_wp2_with fail
        refine (MW1.out _).mono ?_
        rintro e w1 ⟨rfl, b1⟩
        have B1 := Lib.hid (((Below.refl _ w).alloc (Nat.le_refl _) (.cells #[.int .i64 t.ev, .int .i64 t.lg, .int .i64 t.rk] 26)).trans (b1.mono (by rw [al_size]; omega)))
        clear b1
        go_wp2_with fail
        go_ret
        exact NO.out _ B1.out E.out
      | true =>
        have E := Lib.hid (setP_yes (st := st) (i := i) (t := t) h1 (by rw [← HN.out]; exact h2) HMT.out.symm)
        go_enter Try.func19, Try.ntmps19
        go_wp2_with fail
        refine (MW1.out _).mono ?_
        rintro e w1 ⟨rfl, b1⟩
        have bA : Below w.heap.size w (w.alloc (.cells #[.int .i64 t.ev, .int .i64 t.lg, .int .i64 t.rk] 26)) := (Below.refl _ w).alloc (Nat.le_refl _) _
        have B1 := Lib.hid (bA.trans (b1.mono (by rw [al_size]; omega)))
        have T1 := Lib.hid ((b1.block w.heap.size (by rw [al_size]; omega)).trans (Deep.blk_alloc_new w _))
        have P1 := Lib.hid (H.out.below B1.out)
        have p0 := P1.out.p0
        have p1 := P1.out.p1
        rw [← HN.out] at p0
        rw [← HW.out] at p1
        clear b1 bA MW1
        go_wp2_with fail
        refine (rel_walk p lb cap vs S st now _ P1.out (fun x hx => okl_of (IV.out.ln x hx) hM IV.out.n1) n0 n1).mono ?_
        rintro e w2 ⟨rfl, ⟨vs2, q2⟩, g2⟩
        obtain ⟨k, rfl⟩ : ∃ k : Nat, i = (k : Int) := ⟨i.toNat, by omega⟩
        obtain ⟨x, hx⟩ : ∃ x, (rel now st.l)[k]? = some x := ⟨_, List.getElem?_eq_getElem (by rw [rel_len, ← HN.out]; omega)⟩
        have HX := Lib.hid hx
        have G2 := Lib.hid g2
        have Q2 := Lib.hid q2
        have S0 := H.out.inS
        have T2 := Lib.hid ((g2.block w.heap.size (blk_lt T1.out) (fun e => by have := S0 _ e; omega)).trans T1.out)
        have p0 := q2.p0
        simp only at p0
        rw [rel_len, ← HN.out] at p0
        have c0 := blk_cell T2.out 0
        have c1 := blk_cell T2.out 1
        have c2 := blk_cell T2.out 2
        have tl := blk_lt T2.out
        have ql := q2.plt
        have hk64 : (k : Int) < (n : Int) := by omega
        have hkn : k < n := by omega
        have cc := q2.cap1
        have c63 := q2.cap2
        simp only at cc
        rw [rel_len, ← HN.out] at cc
        clear hx g2 q2 S0 T1 p1 P1 h1 h2
        go_wp2_with fail
        refine wp_region_G_tail 8 TNH (by kernel_rfl) (by kernel_rfl) ?_
        simp only [List.take, List.drop]
        iterate 8 (refine wpG_step' (fun K hA hK => ?_); go_simp; (refine bothG_value hA (v := ?_) (fun w' hw' => ?_) ?_; rotate_left; (· go_simp; rfl); (refine hK _ _ ?_; clear hK hA K)))
        refine wpG_nil ?_
        intro w3 hb3 hF
        have Q3 := Lib.hid (Q2.out.below hb3)
        obtain ⟨cur, hcur, _⟩ := Q3.out.bl
        have HC := Lib.hid hcur
        have cs : k * 6 + (tkc t).size ≤ cur.size := by
          obtain ⟨v, hv, A, _⟩ := Q3.out.ln HX.out
          have := A.c5
          simp only [World.cell?, hcur] at this
          have := (Array.getElem?_eq_some_iff.1 this).1
          show k * 6 + 3 ≤ cur.size
          omega
        have CS := Lib.hid cs
        have F3 := Lib.hid ((Fr.of_below (S := S) B1.out).trans' (G2.out.then hb3))
        clear hF hb3 hcur cs c0 c1 c2 tl ql p0
        go_wp2_with (refine wpList_store_at rfl (ty := 26) (x := .tmp 40) (y := .tmp 38) rfl (g := lb) (j := k * 6) (cells := tkc t) rfl rfl HC.out (by kernel_rfl) CS.out (tkc_one _) ?_; intro w4 hg4 on4)
        have P4 := Lib.hid (Q3.out.setT HX.out t HC.out hg4 on4)
        have F4 := Lib.hid (F3.out.trans' (Fr.weaken (only_fr on4) fun j _ e => by rw [show j = lb from e]; exact (H.out.slb)))
        clear hg4 on4
        go_wp2_with fail
        go_ret
        unfold SetP
        rw [E.out]
        have e : setL (rel st.now st.l) (k : Int) (fun x => { x with t := t }) = (rel now st.l).set k { x with t := t } := by
          unfold setL
          rw [Int.toNat_natCast, ← HW.out, modify_set HX.out]
        rw [e]
        exact ⟨rfl, ⟨_, P4.out.keep (S' := Sx S w w4) (fun _ _ => rfl) (fun j hj => hj.elim .inl fun e => .inr ⟨Nat.le_trans B1.out.size e.1, P4.out.inS j hj⟩) (fun j hj => hj.elim (fun e => P4.out.inS j (.inl e)) (·.2))⟩, F4.out⟩
end Go.Proofs.Ytgdkmakmdomdbaa
