import Derived.Test.YtgdkmakmdomdbaaPnM
set_option autoImplicit false
set_option linter.unusedVariables false
namespace Go.Proofs.Ytgdkmakmdomdbaa
open Go.RowKit Lk Pn
/-- a line's six cells -/
structure LnC (cur : Array Value) (o : Nat) (x : Ln) (v : Value) : Prop where
  c0 : cur[o]? = some (.int .i64 x.t.ev)
  c1 : cur[o + 1]? = some (.int .i64 x.t.lg)
  c2 : cur[o + 2]? = some (.int .i64 x.t.rk)
  c3 : cur[o + 3]? = some (.int .i64 x.nx)
  c4 : cur[o + 4]? = some v
  c5 : cur[o + 5]? = some (.int .i64 x.lf)
/-- nothing but blocks of S has changed -/
structure Fr (S : Nat → Prop) (w w' : World) : Prop where
  os : w'.os = w.os
  tape : w'.tape = w.tape
  output : w'.output = w.output
  size : w.heap.size ≤ w'.heap.size
  block : ∀ k, k < w.heap.size → ¬ S k → w'.heap[k]? = w.heap[k]?
theorem Fr.refl (S : Nat → Prop) (w : World) : Fr S w w := ⟨rfl, rfl, rfl, Nat.le_refl _, fun _ _ _ => rfl⟩
/-- S and what is new -/
def Sx (S : Nat → Prop) (w w' : World) : Nat → Prop := fun k => S k ∨ (w.heap.size ≤ k ∧ k < w'.heap.size)
theorem Fr.trans {S : Nat → Prop} {a b c : World} (h : Fr S a b) (k : Fr (Sx S a b) b c) : Fr S a c :=
  ⟨k.os.trans h.os, k.tape.trans h.tape, k.output.trans h.output, Nat.le_trans h.size k.size, fun i hi hn => (k.block i (Nat.lt_of_lt_of_le hi h.size) (fun e => e.elim hn (fun e => absurd e.1 (by omega)))).trans (h.block i hi hn)⟩
theorem Fr.trans' {S : Nat → Prop} {a b c : World} (h : Fr S a b) (k : Fr S b c) : Fr S a c :=
  h.trans ⟨k.os, k.tape, k.output, k.size, fun i hi hn => k.block i hi (fun e => hn (.inl e))⟩
theorem Fr.of_below {S : Nat → Prop} {w w' : World} (h : Below w.heap.size w w') : Fr S w w' := ⟨h.os, h.tape, h.output, h.size, fun k hk _ => h.block k hk⟩
theorem Fr.below {S : Nat → Prop} {B : Nat} {w w' : World} (h : Fr S w w') (hB : B ≤ w.heap.size) (hS : ∀ k, S k → B ≤ k) : Below B w w' :=
  ⟨h.os, h.tape, h.output, h.size, fun k hk => h.block k (Nat.lt_of_lt_of_le hk hB) (fun e => absurd (hS k e) (by omega))⟩
theorem Sx.mono {S : Nat → Prop} {w w' : World} {k : Nat} (h : S k) : Sx S w w' k := .inl h
/-- a plan in memory -/
structure PAx (Y : Ly) (w : World) (S : Nat → Prop) (p lb cap : Nat) (vs : List Value) (st : Pl) : Prop where
  pl : w.heap[p]? = some (.cells #[.slice (some ⟨lb, 0, none⟩) st.l.length cap, .int .i64 st.now] Y.tp (0, 0))
  cap1 : st.l.length ≤ cap
  cap2 : cap ≤ 9223372036854775807
  bl : ∃ cur, w.heap[lb]? = some (.cells cur Y.tl (0, 0)) ∧ ∀ i x v, st.l[i]? = some x → vs[i]? = some v → LnC cur (i * 6) x v
  vl : vs.length = st.l.length
  wt : ∀ (i : Nat) x v, st.l[i]? = some x → vs[i]? = some v → Wt Y w v x.wt
  sp : S p
  slb : S lb
  ne : p ≠ lb
  sv : ∀ (i : Nat) v g, vs[i]? = some v → v.ownBlock = some g → S g ∧ g ≠ p ∧ g ≠ lb
  ap : ∀ (i j : Nat) v v' g, vs[i]? = some v → vs[j]? = some v' → v.ownBlock = some g → v'.ownBlock = some g → i = j
  inS : ∀ k, S k → k < w.heap.size
def PA (Y : Ly) (w : World) (S : Nat → Prop) (p : Nat) (st : Pl) : Prop := ∃ lb cap vs, PAx Y w S p lb cap vs st
theorem PAx.keep {Y : Ly} {w w' : World} {S S' : Nat → Prop} {p lb cap : Nat} {vs : List Value} {st : Pl} (h : PAx Y w S p lb cap vs st) (hb : ∀ k, S k → w'.heap[k]? = w.heap[k]?) (hS : ∀ k, S k → S' k) (hz : ∀ k, S' k → k < w'.heap.size) : PAx Y w' S' p lb cap vs st := by
  refine ⟨(hb p h.sp).trans h.pl, h.cap1, h.cap2, ?_, h.vl, fun i x v hx hv => (h.wt i x v hx hv).of_block fun g hg => hb g (h.sv i v g hv hg).1, hS _ h.sp, hS _ h.slb, h.ne, fun i v g hv hg => ⟨hS _ (h.sv i v g hv hg).1, (h.sv i v g hv hg).2⟩, h.ap, hz⟩
  obtain ⟨cur, h1, h2⟩ := h.bl
  exact ⟨cur, (hb lb h.slb).trans h1, h2⟩
theorem PA.keep {Y : Ly} {w w' : World} {S S' : Nat → Prop} {p : Nat} {st : Pl} (h : PA Y w S p st) (hb : ∀ k, S k → w'.heap[k]? = w.heap[k]?) (hS : ∀ k, S k → S' k) (hz : ∀ k, S' k → k < w'.heap.size) : PA Y w' S' p st := by
  obtain ⟨lb, cap, vs, h⟩ := h
  exact ⟨lb, cap, vs, h.keep hb hS hz⟩
theorem PA.below {Y : Ly} {w w' : World} {S : Nat → Prop} {p : Nat} {st : Pl} (h : PA Y w S p st) (b : Below w.heap.size w w') : PA Y w' S p st := by
  obtain ⟨lb, cap, vs, h⟩ := h
  exact ⟨lb, cap, vs, h.keep (fun k hk => b.block k (h.inS k hk)) (fun _ h => h) fun k hk => Nat.lt_of_lt_of_le (h.inS k hk) b.size⟩
theorem PAx.below {Y : Ly} {w w' : World} {S : Nat → Prop} {p lb cap : Nat} {vs : List Value} {st : Pl} (h : PAx Y w S p lb cap vs st) (b : Below w.heap.size w w') : PAx Y w' S p lb cap vs st :=
  h.keep (fun k hk => b.block k (h.inS k hk)) (fun _ h => h) fun k hk => Nat.lt_of_lt_of_le (h.inS k hk) b.size
/-- another one's doings -/
theorem PA.apart {Y : Ly} {w w' : World} {S T : Nat → Prop} {p : Nat} {st : Pl} (h : PA Y w S p st) (f : Fr T w w') (ha : ∀ k, S k → ¬ T k) : PA Y w' S p st := by
  obtain ⟨lb, cap, vs, h⟩ := h
  exact ⟨lb, cap, vs, h.keep (fun k hk => f.block k (h.inS k hk) (ha k hk)) (fun _ h => h) fun k hk => Nat.lt_of_lt_of_le (h.inS k hk) f.size⟩
/-! what a walk reads -/
theorem PAx.p0 {Y : Ly} {w : World} {S : Nat → Prop} {p lb cap : Nat} {vs : List Value} {st : Pl} (h : PAx Y w S p lb cap vs st) : w.cell? ⟨p, 0, none⟩ = some (.slice (some ⟨lb, 0, none⟩) st.l.length cap) := by simp [World.cell?, h.pl]
theorem PAx.p1 {Y : Ly} {w : World} {S : Nat → Prop} {p lb cap : Nat} {vs : List Value} {st : Pl} (h : PAx Y w S p lb cap vs st) : w.cell? ⟨p, 1, none⟩ = some (.int .i64 st.now) := by simp [World.cell?, h.pl]
theorem PAx.plt {Y : Ly} {w : World} {S : Nat → Prop} {p lb cap : Nat} {vs : List Value} {st : Pl} (h : PAx Y w S p lb cap vs st) : p < w.heap.size := h.inS _ h.sp
theorem PAx.lblt {Y : Ly} {w : World} {S : Nat → Prop} {p lb cap : Nat} {vs : List Value} {st : Pl} (h : PAx Y w S p lb cap vs st) : lb < w.heap.size := h.inS _ h.slb
/-- line i, as a walk reads it -/
structure LnA (w : World) (lb o : Nat) (x : Ln) (v : Value) : Prop where
  c0 : w.cell? ⟨lb, o, none⟩ = some (.int .i64 x.t.ev)
  c1 : w.cell? ⟨lb, o + 1, none⟩ = some (.int .i64 x.t.lg)
  c2 : w.cell? ⟨lb, o + 2, none⟩ = some (.int .i64 x.t.rk)
  c3 : w.cell? ⟨lb, o + 3, none⟩ = some (.int .i64 x.nx)
  c4 : w.cell? ⟨lb, o + 4, none⟩ = some v
  c5 : w.cell? ⟨lb, o + 5, none⟩ = some (.int .i64 x.lf)
  fz : ∀ q, w.frozen? ⟨lb, q, none⟩ = false
  lt : lb < w.heap.size
theorem PAx.ln {Y : Ly} {w : World} {S : Nat → Prop} {p lb cap : Nat} {vs : List Value} {st : Pl} (h : PAx Y w S p lb cap vs st) {i : Nat} {x : Ln} (hx : st.l[i]? = some x) :
    ∃ v, vs[i]? = some v ∧ LnA w lb (i * 6) x v ∧ Wt Y w v x.wt := by
  obtain ⟨cur, h1, h2⟩ := h.bl
  have hi := (List.getElem?_eq_some_iff.1 hx).1
  have hil : i < vs.length := by rw [h.vl]; exact hi
  have hv : vs[i]? = some vs[i] := List.getElem?_eq_getElem hil
  refine ⟨_, hv, ?_, h.wt i x _ hx hv⟩
  obtain ⟨a, b, c, d, e, f⟩ := h2 i x _ hx hv
  exact ⟨by simpa [World.cell?, h1] using a, by simpa [World.cell?, h1] using b, by simpa [World.cell?, h1] using c, by simpa [World.cell?, h1] using d, by simpa [World.cell?, h1] using e, by simpa [World.cell?, h1] using f, fun q => by simp [World.frozen?, h1], h.lblt⟩
/-- line i has turned, and whatever waits of it -/
theorem PAx.turn {Y : Ly} {w w' : World} {S S' : Nat → Prop} {p lb cap : Nat} {vs : List Value} {st : Pl} (h : PAx Y w S p lb cap vs st) {i : Nat} {x x' : Ln} {v v' : Value} (hx : st.l[i]? = some x) (hv : vs[i]? = some v)
    (hlb : ∃ cur cur', w.heap[lb]? = some (.cells cur Y.tl (0, 0)) ∧ w'.heap[lb]? = some (.cells cur' Y.tl (0, 0)) ∧ (∀ o, o < i * 6 ∨ i * 6 + 6 ≤ o → cur'[o]? = cur[o]?) ∧ LnC cur' (i * 6) x' v')
    (hw : Wt Y w' v' x'.wt) (hg : ∀ g, v'.ownBlock = some g → v.ownBlock = some g ∨ (S' g ∧ w.heap.size ≤ g))
    (hb : ∀ k, S k → k ≠ lb → v.ownBlock ≠ some k → w'.heap[k]? = w.heap[k]?) (hS : ∀ k, S k → S' k) (hz : ∀ k, S' k → k < w'.heap.size) :
    PAx Y w' S' p lb cap (vs.set i v') ⟨st.l.set i x', st.now⟩ := by
  have hi := (List.getElem?_eq_some_iff.1 hx).1
  have hiv := (List.getElem?_eq_some_iff.1 hv).1
  have hsv := h.sv i v
  have old : ∀ (j : Nat) u g, j ≠ i → vs[j]? = some u → u.ownBlock = some g → w'.heap[g]? = w.heap[g]? := fun j u g hj hu hg => hb g (h.sv j u g hu hg).1 (h.sv j u g hu hg).2.2 fun e => hj (h.ap j i u v g hu hv hg e)
  refine ⟨?_, by simpa using h.cap1, h.cap2, ?_, by simp [h.vl], ?_, hS _ h.sp, hS _ h.slb, h.ne, ?_, ?_, hz⟩
  · rw [hb p h.sp h.ne fun e => (hsv p hv e).2.1 rfl, h.pl]; simp
  · obtain ⟨cur, cur', e1, e2, e3, e4⟩ := hlb
    obtain ⟨cur0, e5, e6⟩ := h.bl
    rw [e1] at e5
    cases e5
    refine ⟨cur', e2, fun j y u hy hu => ?_⟩
    by_cases e : j = i
    · subst e
      rw [List.getElem?_set_self hi] at hy
      rw [List.getElem?_set_self hiv] at hu
      cases hy; cases hu; exact e4
    · simp only at hy
      rw [List.getElem?_set_ne (fun h => e h.symm)] at hy hu
      obtain ⟨a, b, c, d, f, g⟩ := e6 j y u hy hu
      exact ⟨(e3 _ (by omega)).trans a, (e3 _ (by omega)).trans b, (e3 _ (by omega)).trans c, (e3 _ (by omega)).trans d, (e3 _ (by omega)).trans f, (e3 _ (by omega)).trans g⟩
  · intro j y u hy hu
    by_cases e : j = i
    · subst e
      simp only at hy
      rw [List.getElem?_set_self hi] at hy
      rw [List.getElem?_set_self hiv] at hu
      cases hy; cases hu; exact hw
    · simp only at hy
      rw [List.getElem?_set_ne (fun h => e h.symm)] at hy hu
      exact (h.wt j y u hy hu).of_block fun g hg => old j u g e hu hg
  · intro j u g hu hg'
    by_cases e : j = i
    · subst e
      rw [List.getElem?_set_self hiv] at hu
      cases hu
      rcases hg g hg' with a | ⟨a, b⟩
      · exact ⟨hS _ (hsv g hv a).1, (hsv g hv a).2⟩
      · exact ⟨a, by have := h.plt; omega, by have := h.lblt; omega⟩
    · rw [List.getElem?_set_ne (fun h => e h.symm)] at hu
      exact ⟨hS _ (h.sv j u g hu hg').1, (h.sv j u g hu hg').2⟩
  · have key : ∀ (j : Nat) u g, j ≠ i → vs[j]? = some u → u.ownBlock = some g → v'.ownBlock = some g → False := fun j u g hj hu hg1 hg2 => by
      rcases hg g hg2 with a | ⟨a, b⟩
      · exact hj (h.ap j i u v g hu hv hg1 a)
      · have := h.inS g (h.sv j u g hu hg1).1; omega
    intro j k u u' g hu hu' hg1 hg2
    by_cases e1 : j = i
    · by_cases e2 : k = i
      · omega
      · subst e1
        rw [List.getElem?_set_self hiv] at hu
        rw [List.getElem?_set_ne (fun h => e2 h.symm)] at hu'
        cases hu
        exact (key k u' g e2 hu' hg2 hg1).elim
    · rw [List.getElem?_set_ne (fun h => e1 h.symm)] at hu
      by_cases e2 : k = i
      · subst e2
        rw [List.getElem?_set_self hiv] at hu'
        cases hu'
        exact (key j u g e1 hu hg1 hg2).elim
      · rw [List.getElem?_set_ne (fun h => e2 h.symm)] at hu'
        exact h.ap j k u u' g hu hu' hg1 hg2
/-- a cell of line i is written -/
theorem PAx.setCell {Y : Ly} {w : World} {S : Nat → Prop} {p lb cap : Nat} {vs : List Value} {st : Pl} (h : PAx Y w S p lb cap vs st) {i : Nat} {x x' : Ln} {v : Value} (hx : st.l[i]? = some x) (hv : vs[i]? = some v) (q : Nat) (hq : q < 6) (u : Value)
    (hc : ∀ cur, LnC cur (i * 6) x v → i * 6 + 6 ≤ cur.size → LnC (cur.setIfInBounds (i * 6 + q) u) (i * 6) x' v) (hw : x'.wt = x.wt) :
    PAx Y (w.setCell ⟨lb, i * 6 + q, none⟩ u) S p lb cap (vs.set i v) ⟨st.l.set i x', st.now⟩ := by
  have hoth : ∀ k, k ≠ lb → (w.setCell ⟨lb, i * 6 + q, none⟩ u).heap[k]? = w.heap[k]? := fun k hk => Deep.blk_setCell_other _ _ _ _ hk
  refine h.turn hx hv ?_ ?_ (fun g hg => .inl hg) (fun k _ hk _ => hoth k hk) (fun _ h => h) (fun k hk => by rw [size_setCell]; exact h.inS k hk)
  · obtain ⟨cur, e1, e2⟩ := h.bl
    have e3 := e2 i x v hx hv
    have hs : i * 6 + 6 ≤ cur.size := by have := (Array.getElem?_eq_some_iff.1 e3.c5).1; omega
    refine ⟨cur, _, e1, blk_setCell _ _ _ _ e1, fun o ho => ?_, hc cur e3 hs⟩
    rw [Array.getElem?_setIfInBounds, if_neg (by omega)]
  · rw [hw]; exact (h.wt i x v hx hv).of_block fun g hg => hoth g (h.sv i v g hv hg).2.2
theorem LnC.set3 {cur : Array Value} {o : Nat} {x : Ln} {v : Value} (h : LnC cur o x v) (hs : o + 6 ≤ cur.size) (n : Int) : LnC (cur.setIfInBounds (o + 3) (.int .i64 n)) o { x with nx := n } v := by
  obtain ⟨a, b, c, d, e, f⟩ := h
  constructor <;> rw [Array.getElem?_setIfInBounds] <;> first | (rw [if_neg (by omega)]; assumption) | (rw [if_pos rfl, if_pos (by omega)])
theorem LnC.set5 {cur : Array Value} {o : Nat} {x : Ln} {v : Value} (h : LnC cur o x v) (hs : o + 6 ≤ cur.size) (n : Int) : LnC (cur.setIfInBounds (o + 5) (.int .i64 n)) o { x with lf := n } v := by
  obtain ⟨a, b, c, d, e, f⟩ := h
  constructor <;> rw [Array.getElem?_setIfInBounds] <;> first | (rw [if_neg (by omega)]; assumption) | (rw [if_pos rfl, if_pos (by omega)])
theorem LnC.set4 {cur : Array Value} {o : Nat} {x : Ln} {v : Value} (h : LnC cur o x v) (hs : o + 6 ≤ cur.size) (l : List Rn) (v' : Value) : LnC (cur.setIfInBounds (o + 4) v') o { x with wt := l } v' := by
  obtain ⟨a, b, c, d, e, f⟩ := h
  constructor <;> rw [Array.getElem?_setIfInBounds] <;> first | (rw [if_neg (by omega)]; assumption) | (rw [if_pos rfl, if_pos (by omega)])
theorem PAx.setNx {Y : Ly} {w : World} {S : Nat → Prop} {p lb cap : Nat} {vs : List Value} {st : Pl} (h : PAx Y w S p lb cap vs st) {i : Nat} {x : Ln} {v : Value} (hx : st.l[i]? = some x) (hv : vs[i]? = some v) (n : Int) :
    PAx Y (w.setCell ⟨lb, i * 6 + 3, none⟩ (.int .i64 n)) S p lb cap (vs.set i v) ⟨st.l.set i { x with nx := n }, st.now⟩ :=
  h.setCell hx hv 3 (by decide) _ (fun cur h1 h2 => h1.set3 h2 n) rfl
theorem PAx.setLf {Y : Ly} {w : World} {S : Nat → Prop} {p lb cap : Nat} {vs : List Value} {st : Pl} (h : PAx Y w S p lb cap vs st) {i : Nat} {x : Ln} {v : Value} (hx : st.l[i]? = some x) (hv : vs[i]? = some v) (n : Int) :
    PAx Y (w.setCell ⟨lb, i * 6 + 5, none⟩ (.int .i64 n)) S p lb cap (vs.set i v) ⟨st.l.set i { x with lf := n }, st.now⟩ :=
  h.setCell hx hv 5 (by decide) _ (fun cur h1 h2 => h1.set5 h2 n) rfl
/-- a cell of a run that waits is written -/
theorem PAx.setRun {Y : Ly} {w : World} {S : Nat → Prop} {p lb cap : Nat} {vs : List Value} {st : Pl} (h : PAx Y w S p lb cap vs st) {i : Nat} {x : Ln} {v : Value} (hx : st.l[i]? = some x) (hv : vs[i]? = some v)
    {g off c2 : Nat} {cur : Array Value} (he : v = .slice (some ⟨g, off, none⟩) x.wt.length c2) (hB : WtB Y w g off c2 cur x.wt) {j : Nat} {r r' : Rn} (hj : x.wt[j]? = some r) {q : Nat} (hq : q < 5) (u : Value) (hr : Y.rc r' = (Y.rc r).set q u) :
    PAx Y (w.setCell ⟨g, off + (j * 5 + q), none⟩ u) S p lb cap (vs.set i v) ⟨st.l.set i { x with wt := x.wt.set j r' }, st.now⟩ := by
  have hg : v.ownBlock = some g := by rw [he]; rfl
  have hne := (h.sv i v g hv hg).2
  have hoth : ∀ k, k ≠ g → (w.setCell ⟨g, off + (j * 5 + q), none⟩ u).heap[k]? = w.heap[k]? := fun k hk => Deep.blk_setCell_other _ _ _ _ hk
  refine h.turn hx hv ?_ ?_ (fun g hg => .inl hg) (fun k _ _ hk => hoth k (fun e => hk (by rw [hg, e]))) (fun _ h => h) (fun k hk => by rw [size_setCell]; exact h.inS k hk)
  · obtain ⟨cur, e1, e2⟩ := h.bl
    obtain ⟨a, b, c, d, e, f⟩ := e2 i x v hx hv
    exact ⟨cur, cur, e1, (hoth lb hne.2.symm).trans e1, fun _ _ => rfl, a, b, c, d, e, f⟩
  · refine .inr ⟨g, off, c2, _, ?_, hB.set hj hq u hr⟩
    rw [he, List.length_set]
/-- what waits is another slice -/
theorem PAx.setWt {Y : Ly} {w w1 : World} {S S' : Nat → Prop} {p lb cap : Nat} {vs : List Value} {st : Pl} (h : PAx Y w S p lb cap vs st) {i : Nat} {x : Ln} {v v' : Value} {l : List Rn} (hx : st.l[i]? = some x) (hv : vs[i]? = some v)
    (hw : Wt Y w1 v' l) (hg : ∀ g, v'.ownBlock = some g → v.ownBlock = some g ∨ (S' g ∧ w.heap.size ≤ g))
    (hb : ∀ k, S k → v.ownBlock ≠ some k → w1.heap[k]? = w.heap[k]?) (hS : ∀ k, S k → S' k) (hz : ∀ k, S' k → k < w1.heap.size) :
    PAx Y (w1.setCell ⟨lb, i * 6 + 4, none⟩ v') S' p lb cap (vs.set i v') ⟨st.l.set i { x with wt := l }, st.now⟩ := by
  have hoth : ∀ k, k ≠ lb → (w1.setCell ⟨lb, i * 6 + 4, none⟩ v').heap[k]? = w1.heap[k]? := fun k hk => Deep.blk_setCell_other _ _ _ _ hk
  have hlb : w1.heap[lb]? = w.heap[lb]? := hb lb h.slb fun e => (h.sv i v lb hv e).2.2 rfl
  refine h.turn hx hv ?_ (hw.of_block fun g hg' => hoth g ?_) hg (fun k hk hk2 hk3 => (hoth k hk2).trans (hb k hk hk3)) hS (fun k hk => by rw [size_setCell]; exact hz k hk)
  · obtain ⟨cur, e1, e2⟩ := h.bl
    have e3 := e2 i x v hx hv
    have hs : i * 6 + 6 ≤ cur.size := by have := (Array.getElem?_eq_some_iff.1 e3.c5).1; omega
    refine ⟨cur, _, e1, blk_setCell _ _ _ _ (hlb.trans e1), fun o ho => ?_, e3.set4 hs l v'⟩
    rw [Array.getElem?_setIfInBounds, if_neg (by omega)]
  · rcases hg g hg' with e | ⟨_, e⟩
    · exact (h.sv i v g hv e).2.2
    · have := h.lblt; omega
/-- the time is another -/
theorem PAx.setNow {Y : Ly} {w : World} {S : Nat → Prop} {p lb cap : Nat} {vs : List Value} {st : Pl} (h : PAx Y w S p lb cap vs st) (n : Int) : PAx Y (w.setCell ⟨p, 1, none⟩ (.int .i64 n)) S p lb cap vs ⟨st.l, n⟩ := by
  have hoth : ∀ k, k ≠ p → (w.setCell ⟨p, 1, none⟩ (.int .i64 n)).heap[k]? = w.heap[k]? := fun k hk => Deep.blk_setCell_other _ _ _ _ hk
  refine ⟨blk_setCell _ _ _ _ h.pl, h.cap1, h.cap2, ?_, h.vl, fun i x v hx hv => (h.wt i x v hx hv).of_block fun g hg => hoth g (h.sv i v g hv hg).2.1, h.sp, h.slb, h.ne, h.sv, h.ap, fun k hk => by rw [size_setCell]; exact h.inS k hk⟩
  obtain ⟨cur, e1, e2⟩ := h.bl
  exact ⟨cur, (hoth lb h.ne.symm).trans e1, e2⟩
end Go.Proofs.Ytgdkmakmdomdbaa
