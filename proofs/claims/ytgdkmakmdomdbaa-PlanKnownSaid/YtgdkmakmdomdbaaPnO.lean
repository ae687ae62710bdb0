import Derived.Test.YtgdkmakmdomdbaaPnN
import Derived.Test.YtgdkmakmdomdbaaFlQ
import Derived.Deep.QuietTactic
set_option autoImplicit false
set_option linter.unusedVariables false
namespace Go.Proofs.Ytgdkmakmdomdbaa
open Go.RowKit Lk Pn
def TNo : FuncId → Array Value → Value → World → Prop := fun _ _ _ _ => False
/-- a line whose numbers are small enough -/
structure OkL (x : Ln) : Prop where
  ev1 : 1 ≤ x.t.ev
  ev2 : x.t.ev ≤ 1099511627776
  lg1 : 1 ≤ x.t.lg
  lg2 : x.t.lg ≤ x.t.ev
  nx0 : 0 ≤ x.nx
  nx1 : x.nx ≤ 2305843009213693952
  lf0 : 0 ≤ x.lf
  lf1 : x.lf ≤ 1099511627776
  wl : x.wt.length ≤ 4194304
  rn : ∀ r ∈ x.wt, 1 ≤ r.t.ev ∧ r.t.ev ≤ 1099511627776 ∧ 1 ≤ r.t.lg ∧ r.t.lg ≤ r.t.ev ∧ 0 ≤ r.fi ∧ 1 ≤ r.ct ∧ r.fi + r.ct * r.t.ev ≤ x.nx
def relK (T : Int) (l : List Ln) (k : Nat) : List Ln := (l.take k).map (relL T) ++ l.drop k
theorem relK_len (T : Int) (l : List Ln) (k : Nat) : (relK T l k).length = l.length := by
  unfold relK; simp; omega
theorem relK_at {T : Int} {l : List Ln} {k : Nat} {x : Ln} (h : l[k]? = some x) : (relK T l k)[k]? = some x := by
  have := (List.getElem?_eq_some_iff.1 h).1
  unfold relK
  rw [List.getElem?_append_right (by simp; omega)]
  simp [h, Nat.min_eq_left (Nat.le_of_lt this)]
theorem relK_succ {T : Int} {l : List Ln} {k : Nat} {x : Ln} (h : l[k]? = some x) : relK T l (k + 1) = (relK T l k).set k (relL T x) := by
  have hk := (List.getElem?_eq_some_iff.1 h).1
  apply List.ext_getElem?
  intro j
  by_cases e : j = k
  · subst e
    rw [List.getElem?_set_self (by rw [relK_len]; exact hk)]
    unfold relK
    rw [List.getElem?_append_left (by simp; omega), List.getElem?_map, List.getElem?_take, if_pos (by omega), h]; rfl
  · rw [List.getElem?_set_ne (by omega)]
    unfold relK
    by_cases hj : j < k
    · rw [List.getElem?_append_left (by simp; omega), List.getElem?_append_left (by simp; omega)]
      simp [hj, show j < k + 1 by omega]
    · rw [List.getElem?_append_right (by simp; omega), List.getElem?_append_right (by simp; omega)]
      simp only [List.length_map, List.length_take, List.getElem?_drop]
      congr 1
      omega
theorem relK_all (T : Int) (l : List Ln) : relK T l l.length = rel T l := by unfold relK rel; simp
theorem relK_zero (T : Int) (l : List Ln) : relK T l 0 = l := by unfold relK; simp
theorem PAx.up {Y : Ly} {w wa wr : World} {S : Nat → Prop} {p lb cap : Nat} {vs : List Value} {st : Pl} (h : PAx Y wr (Sx S w wa) p lb cap vs st) (ha : wa.heap.size ≤ wr.heap.size) : PAx Y wr (Sx S w wr) p lb cap vs st :=
  h.keep (fun _ _ => rfl) (fun k hk => hk.imp id fun e => ⟨e.1, Nat.lt_of_lt_of_le e.2 ha⟩) fun k hk => hk.elim (fun e => h.inS k (.inl e)) fun e => e.2
theorem PAx.start {Y : Ly} {w : World} {S : Nat → Prop} {p lb cap : Nat} {vs : List Value} {st : Pl} (h : PAx Y w S p lb cap vs st) : PAx Y w (Sx S w w) p lb cap vs st :=
  h.keep (fun _ _ => rfl) (fun k hk => .inl hk) fun k hk => hk.elim (h.inS k) fun e => e.2
theorem Fr.set {T : Nat → Prop} {a b : World} (h : Fr T a b) {p : Addr} (hT : T p.block) (u : Value) : Fr T a (b.setCell p u) :=
  ⟨h.os, h.tape, h.output, by rw [size_setCell]; exact h.size, fun k hk hn => (Deep.blk_setCell_other _ _ _ _ (fun e => hn (by rw [e]; exact hT))).trans (h.block k hk hn)⟩
theorem Fr.then {T : Nat → Prop} {a b c : World} (h : Fr T a b) (k : Below b.heap.size b c) : Fr T a c :=
  ⟨k.os.trans h.os, k.tape.trans h.tape, k.output.trans h.output, Nat.le_trans h.size k.size, fun i hi hn => (k.block i (Nat.lt_of_lt_of_le hi h.size)).trans (h.block i hi hn)⟩
theorem Fr.grown {T : Nat → Prop} {a b c : World} {row : Option Nat} (h : Fr T a b) (k : b.grownBy c row) (hr : ∀ g, row = some g → T g) : Fr T a c :=
  ⟨k.os.trans h.os, k.tape.trans h.tape, k.output.trans h.output, Nat.le_trans h.size k.size, fun i hi hn => (k.block i (Nat.lt_of_lt_of_le hi h.size) (fun e => hn (hr i e.symm))).trans (h.block i hi hn)⟩
theorem undrew {B n : Nat} {w w' : World} (h : Below B (w.drewN n) w') : Below B w w' := ⟨h.os, h.tape, h.output, h.size, h.block⟩
theorem set_set {α : Type} (l : List α) (k : Nat) (x y : α) : (l.set k x).set k y = l.set k y := by simp
theorem set_at {α : Type} {l : List α} {k : Nat} {x y : α} (h : l[k]? = some x) : (l.set k y)[k]? = some y := List.getElem?_set_self (List.getElem?_eq_some_iff.1 h).1
theorem relL_no {T : Int} {x : Ln} (h : T < x.nx) : relL T x = x := by unfold relL; rw [if_pos h]
theorem set_same {α : Type} {l : List α} {k : Nat} {x : α} (h : l[k]? = some x) : l.set k x = l := by
  apply List.ext_getElem?
  intro j
  by_cases e : j = k
  · subst e; rw [set_at h, h]
  · rw [List.getElem?_set_ne (by omega)]
/-- what the region that appends reads -/
structure RJ (lb o : Nat) (ev lg rk nx : Int) (x : World) : Prop where
  c0 : x.cell? ⟨lb, o, none⟩ = some (.int .i64 ev)
  c1 : x.cell? ⟨lb, o + 1, none⟩ = some (.int .i64 lg)
  c2 : x.cell? ⟨lb, o + 2, none⟩ = some (.int .i64 rk)
  c3 : x.cell? ⟨lb, o + 3, none⟩ = some (.int .i64 nx)
  lt : lb < x.heap.size
theorem RJ.of_block {lb o : Nat} {ev lg rk nx : Int} {x y : World} (h : RJ lb o ev lg rk nx x) (e : y.heap[lb]? = x.heap[lb]?) (hz : x.heap.size ≤ y.heap.size) : RJ lb o ev lg rk nx y :=
  ⟨(World.cell?_of_block e).trans h.c0, (World.cell?_of_block e).trans h.c1, (World.cell?_of_block e).trans h.c2, (World.cell?_of_block e).trans h.c3, Nat.lt_of_lt_of_le h.lt hz⟩
theorem RJ.set {lb o q : Nat} {ev lg rk nx : Int} {x : World} (h : RJ lb o ev lg rk nx x) (hq : 4 ≤ q) (u : Value) : RJ lb o ev lg rk nx (x.setCell ⟨lb, o + q, none⟩ u) := by
  refine ⟨?_, ?_, ?_, ?_, by rw [size_setCell]; exact h.lt⟩
  · rw [World.cell?_setCell_other _ _ _ _ (by intro e; have := congrArg Addr.off e; simp only at this; omega)]; exact h.c0
  · rw [World.cell?_setCell_other _ _ _ _ (by intro e; have := congrArg Addr.off e; simp only at this; omega)]; exact h.c1
  · rw [World.cell?_setCell_other _ _ _ _ (by intro e; have := congrArg Addr.off e; simp only at this; omega)]; exact h.c2
  · rw [World.cell?_setCell_other _ _ _ _ (by intro e; have := congrArg Addr.off e; simp only at this; omega)]; exact h.c3
theorem al_size (w : World) (o : Obj) : (w.alloc o).heap.size = w.heap.size + 1 := Array.size_push _
/-- one run more waits -/
theorem PAx.app {Y : Ly} {w wr w1 w2 : World} {S : Nat → Prop} {p lb cap : Nat} {vs : List Value} {L : List Ln} {now : Int} (h : PAx Y w1 (Sx S w wr) p lb cap vs ⟨L, now⟩) (hz : wr.heap.size ≤ w1.heap.size) (hz0 : w.heap.size ≤ wr.heap.size) {k : Nat} {x : Ln} {v : Value} (hx : L[k]? = some x) (hv : vs[k]? = some v)
    (ob : Obj) {g' n' c' : Nat} {l : List Rn} (hw : Wt Y w2 (.slice (some ⟨g', 0, none⟩) n' c') l) (gr : (w1.alloc ob).grownBy w2 v.ownBlock) (hp : v.ownBlock = some g' ∨ (w1.alloc ob).heap.size ≤ g') :
    PAx Y (w2.setCell ⟨lb, k * 6 + 4, none⟩ (.slice (some ⟨g', 0, none⟩) n' c')) (Sx S w w2) p lb cap (vs.set k (.slice (some ⟨g', 0, none⟩) n' c')) ⟨L.set k { x with wt := l }, now⟩ ∧ Fr (Sx S w wr) w1 (w2.setCell ⟨lb, k * 6 + 4, none⟩ (.slice (some ⟨g', 0, none⟩) n' c')) ∧ w2.heap[lb]? = w1.heap[lb]? ∧ w1.heap.size < w2.heap.size := by
  have hs := gr.size
  rw [al_size] at hs
  have hblk : ∀ k, k < w1.heap.size → v.ownBlock ≠ some k → w2.heap[k]? = w1.heap[k]? := fun k hk hn => (gr.block k (by rw [al_size]; omega) (fun e => hn e.symm)).trans (Below.heap_alloc w1 ob k hk)
  have hg2 : g' < w2.heap.size := (hw.form).elim fun a h => h.elim fun c h => h.2.2.2 g' rfl
  refine ⟨?_, ?_, hblk lb h.lblt fun e => (h.sv k v lb hv e).2.2 rfl, by omega⟩
  · refine h.setWt hx hv hw (fun g hg => ?_) (fun j hj hn => hblk j (h.inS j hj) hn) (fun j hj => hj.imp id fun e => ⟨e.1, by omega⟩) fun j hj => ?_
    · obtain rfl : g' = g := Option.some.inj hg
      rcases hp with hp | hp
      · exact .inl hp
      · rw [al_size] at hp
        exact .inr ⟨.inr ⟨by omega, hg2⟩, by omega⟩
    · rcases hj with hj | hj
      · have := h.inS j (.inl hj); omega
      · exact hj.2
  · refine Fr.set ?_ h.slb _
    refine Fr.grown (Fr.then (Fr.refl _ _) ((Below.refl _ w1).alloc (Nat.le_refl _) ob)) gr fun g hg => (h.sv k v g hv hg).1
theorem relL_none {T : Int} {x : Ln} (h : ¬ T < x.nx) (h0 : x.wt = []) : relL T x = ⟨x.t, x.nx + relN T x * x.t.ev, [⟨x.t, x.nx, relN T x⟩], x.t.lg⟩ := by
  unfold relL relW; rw [if_neg h, h0]; rfl
theorem relL_same {T : Int} {x : Ln} {ws : List Rn} {r : Rn} (h : ¬ T < x.nx) (h0 : x.wt = ws ++ [r]) (he : r.t = x.t) : relL T x = ⟨x.t, x.nx + relN T x * x.t.ev, ws ++ [⟨r.t, r.fi, r.ct + relN T x⟩], x.lf⟩ := by
  unfold relL relW; rw [if_neg h, h0]
  simp [he, tkEq_iff.2 rfl]
theorem relL_new {T : Int} {x : Ln} {ws : List Rn} {r : Rn} (h : ¬ T < x.nx) (h0 : x.wt = ws ++ [r]) (he : r.t ≠ x.t) : relL T x = ⟨x.t, x.nx + relN T x * x.t.ev, x.wt ++ [⟨x.t, x.nx, relN T x⟩], x.lf⟩ := by
  unfold relL relW; rw [if_neg h, h0]
  have : tkEq r.t x.t = false := by rw [Bool.eq_false_iff]; exact fun e => he (tkEq_iff.1 e)
  simp [this]
theorem rj_drew {lb o : Nat} {ev lg rk nx : Int} {w : World} (n : Nat) (h : RJ lb o ev lg rk nx w) : RJ lb o ev lg rk nx { heap := (w.drewN n).heap, tape := (w.drewN n).tape, drawn := (w.drewN n).drawn + 1, os := (w.drewN n).os, output := (w.drewN n).output } :=
  ⟨h.c0, h.c1, h.c2, h.c3, h.lt⟩
theorem Try.und66 : Try.prog.underlying 66 = some (.slice 102) := by kernel_rfl
theorem Try.und72 : Try.prog.underlying 72 = some (.slice 108) := by kernel_rfl
theorem run_info : (Try.prog.info? 102).map (fun i => (i.zero.map (fun z => z.cells.size), i.size, i.bytes)) = some (some 5, 5, 40) := by kernel_rfl
theorem jobs_info : (Try.prog.info? 108).map (fun i => (i.zero.map (fun z => z.cells.size), i.size, i.bytes)) = some (some 5, 5, 40) := by kernel_rfl
theorem info5 {e : TypeId} {size bytes k : Nat} (h : (Try.prog.info? e).map (fun i => (i.zero.map (fun z => z.cells.size), i.size, i.bytes)) = some (some k, size, bytes)) :
    ∃ i z, Try.prog.info? e = some i ∧ i.zero = some z ∧ i.size = size ∧ i.bytes = bytes ∧ z.cells.size = k := by
  obtain ⟨i, hi, hzz⟩ := Option.map_eq_some_iff.1 h
  simp only [Prod.mk.injEq] at hzz
  obtain ⟨z, hz, hk⟩ := Option.map_eq_some_iff.1 hzz.1
  exact ⟨i, z, hi, hz, hzz.2.1, hzz.2.2, hk⟩
/-- a plan whose line k is being turned: L0 with x at k; v is the slice of what waits there -/
structure Md (Y : Ly) (S : Nat → Prop) (w wc : World) (p lb cap : Nat) (now : Int) (L0 : List Ln) (k : Nat) (x : Ln) (v : Value) : Prop where
  ex : ∃ vs, PAx Y wc (Sx S w wc) p lb cap vs ⟨L0.set k x, now⟩ ∧ vs[k]? = some v
  fr : Fr S w wc
  kl : k < L0.length
namespace Md
variable {Y : Ly} {S : Nat → Prop} {w wc : World} {p lb cap : Nat} {now : Int} {L0 : List Ln} {k : Nat} {x : Ln} {v : Value}
theorem at' (h : Md Y S w wc p lb cap now L0 k x v) : (L0.set k x)[k]? = some x := List.getElem?_set_self h.kl
theorem start {vs : List Value} (h : PAx Y wc (Sx S w wc) p lb cap vs ⟨L0, now⟩) (f : Fr S w wc) (hx : L0[k]? = some x) : ∃ v, Md Y S w wc p lb cap now L0 k x v := by
  obtain ⟨v, hv, _⟩ := h.ln hx
  exact ⟨v, ⟨vs, by rw [set_same hx]; exact h, hv⟩, f, (List.getElem?_eq_some_iff.1 hx).1⟩
theorem ln (h : Md Y S w wc p lb cap now L0 k x v) : LnA wc lb (k * 6) x v ∧ Wt Y wc v x.wt := by
  obtain ⟨vs, hp, hv⟩ := h.ex
  obtain ⟨v', hv', a, b⟩ := hp.ln h.at'
  obtain rfl : v' = v := by rw [hv] at hv'; exact (Option.some.inj hv').symm
  exact ⟨a, b⟩
theorem below {wd : World} (h : Md Y S w wc p lb cap now L0 k x v) (b : Below wc.heap.size wc wd) : Md Y S w wd p lb cap now L0 k x v := by
  obtain ⟨vs, hp, hv⟩ := h.ex
  exact ⟨⟨vs, (hp.below b).up b.size, hv⟩, h.fr.then b, h.kl⟩
theorem setNx (h : Md Y S w wc p lb cap now L0 k x v) (n : Int) : Md Y S w (wc.setCell ⟨lb, k * 6 + 3, none⟩ (.int .i64 n)) p lb cap now L0 k { x with nx := n } v := by
  obtain ⟨vs, hp, hv⟩ := h.ex
  have q := hp.setNx h.at' hv n
  simp only [set_set] at q
  exact ⟨⟨_, q.up (by rw [size_setCell]; exact Nat.le_refl _), set_at hv⟩, h.fr.trans (Fr.set (Fr.refl _ _) hp.slb _), h.kl⟩
theorem setLf (h : Md Y S w wc p lb cap now L0 k x v) (n : Int) : Md Y S w (wc.setCell ⟨lb, k * 6 + 5, none⟩ (.int .i64 n)) p lb cap now L0 k { x with lf := n } v := by
  obtain ⟨vs, hp, hv⟩ := h.ex
  have q := hp.setLf h.at' hv n
  simp only [set_set] at q
  exact ⟨⟨_, q.up (by rw [size_setCell]; exact Nat.le_refl _), set_at hv⟩, h.fr.trans (Fr.set (Fr.refl _ _) hp.slb _), h.kl⟩
theorem setRun (h : Md Y S w wc p lb cap now L0 k x v) {g off c2 : Nat} {cur : Array Value} (he : v = .slice (some ⟨g, off, none⟩) x.wt.length c2) (hB : WtB Y wc g off c2 cur x.wt) {j : Nat} {r r' : Rn} (hj : x.wt[j]? = some r) {q : Nat} (hq : q < 5) (u : Value) (hr : Y.rc r' = (Y.rc r).set q u) :
    Md Y S w (wc.setCell ⟨g, off + (j * 5 + q), none⟩ u) p lb cap now L0 k { x with wt := x.wt.set j r' } v := by
  obtain ⟨vs, hp, hv⟩ := h.ex
  have q := hp.setRun h.at' hv he hB hj hq u hr
  simp only [set_set] at q
  exact ⟨⟨_, q.up (by rw [size_setCell]; exact Nat.le_refl _), set_at hv⟩, h.fr.trans (Fr.set (Fr.refl _ _) (hp.sv k v g hv (by rw [he]; rfl)).1 _), h.kl⟩
theorem app (h : Md Y S w wc p lb cap now L0 k x v) (ob : Obj) {g' n' c' : Nat} {l : List Rn} {w2 : World} (hw : Wt Y w2 (.slice (some ⟨g', 0, none⟩) n' c') l) (gr : (wc.alloc ob).grownBy w2 v.ownBlock) (hp : v.ownBlock = some g' ∨ (wc.alloc ob).heap.size ≤ g') :
    Md Y S w (w2.setCell ⟨lb, k * 6 + 4, none⟩ (.slice (some ⟨g', 0, none⟩) n' c')) p lb cap now L0 k { x with wt := l } (.slice (some ⟨g', 0, none⟩) n' c') ∧ w2.heap[lb]? = wc.heap[lb]? ∧ wc.heap.size < w2.heap.size := by
  obtain ⟨vs, hpp, hv⟩ := h.ex
  obtain ⟨q, f, e, z⟩ := hpp.app (Nat.le_refl _) h.fr.size h.at' hv ob hw gr hp
  simp only [set_set] at q
  exact ⟨⟨⟨_, q.up (by rw [size_setCell]; exact Nat.le_refl _), set_at hv⟩, h.fr.trans f, h.kl⟩, e, z⟩
/-- the first run is gone -/
theorem pop (h : Md Y S w wc p lb cap now L0 k x v) {v' : Value} {l : List Rn} (hw : Wt Y wc v' l) (hg : ∀ g, v'.ownBlock = some g → v.ownBlock = some g) : Md Y S w (wc.setCell ⟨lb, k * 6 + 4, none⟩ v') p lb cap now L0 k { x with wt := l } v' := by
  obtain ⟨vs, hp, hv⟩ := h.ex
  have q := hp.setWt (w1 := wc) (S' := Sx S w wc) h.at' hv hw (fun g e => .inl (hg g e)) (fun _ _ _ => rfl) (fun _ h => h) hp.inS
  simp only [set_set] at q
  exact ⟨⟨_, q.up (by rw [size_setCell]; exact Nat.le_refl _), set_at hv⟩, h.fr.trans (Fr.set (Fr.refl _ _) hp.slb _), h.kl⟩
theorem pa (h : Md Y S w wc p lb cap now L0 k x v) : ∃ vs, PAx Y wc (Sx S w wc) p lb cap vs ⟨L0.set k x, now⟩ := h.ex.imp fun _ h => h.1
theorem rj (h : Md Y S w wc p lb cap now L0 k x v) : RJ lb (k * 6) x.t.ev x.t.lg x.t.rk x.nx wc := ⟨h.ln.1.c0, h.ln.1.c1, h.ln.1.c2, h.ln.1.c3, h.ln.1.lt⟩
end Md
theorem RJ.alloc {lb o : Nat} {ev lg rk nx : Int} {w : World} (h : RJ lb o ev lg rk nx w) (ob : Obj) : RJ lb o ev lg rk nx (w.alloc ob) := h.of_block (Below.heap_alloc w ob lb h.lt) (by rw [al_size]; omega)
theorem one5 (a b c d e : Int) : ∀ u ∈ [Value.int .i64 a, .int .i64 b, .int .i64 c, .int .i64 d, .int .i64 e], u.oneCell' = true := by
  intro u hu
  simp only [List.mem_cons, List.not_mem_nil, or_false] at hu
  rcases hu with rfl | rfl | rfl | rfl | rfl <;> rfl
theorem wt_alloc {Y : Ly} {w : World} {v : Value} {l : List Rn} (h : Wt Y w v l) (ob : Obj) : Wt Y (w.alloc ob) v l :=
  h.of_block fun g hg => Below.heap_alloc w ob g (h.form.elim fun a h => h.elim fun c h => h.2.2.2 g hg)
theorem Md.ne {Y : Ly} {S : Nat → Prop} {w wc : World} {p lb cap : Nat} {now : Int} {L0 : List Ln} {k : Nat} {x : Ln} {v : Value} (h : Md Y S w wc p lb cap now L0 k x v) {g : Nat} (hg : v.ownBlock = some g) : g ≠ lb ∧ g ≠ p := by
  obtain ⟨vs, hp, hv⟩ := h.ex
  exact ⟨(hp.sv k v g hv hg).2.2, (hp.sv k v g hv hg).2.1⟩
theorem Md.nep {Y : Ly} {S : Nat → Prop} {w wc : World} {p lb cap : Nat} {now : Int} {L0 : List Ln} {k : Nat} {x : Ln} {v : Value} (h : Md Y S w wc p lb cap now L0 k x v) : p ≠ lb := h.ex.elim fun _ h => h.1.ne
theorem run_tk_eq (a b : Tk) (w : World) : (binOp .eql 26 (.agg #[.int .i64 a.ev, .int .i64 a.lg, .int .i64 a.rk]) (.agg #[.int .i64 b.ev, .int .i64 b.lg, .int .i64 b.rk])).run Try.prog w = .ok (.bool (tkEq a b)) w := by
  have q : ∀ (x y : Int), decide (x = y) = (x == y) := fun x y => by by_cases h : x = y <;> simp [h]
  unfold tkEq
  rw [q, q, q]
  cases h1 : a.ev == b.ev <;> cases h2 : a.lg == b.lg <;> cases h3 : a.rk == b.rk <;> go_simp
theorem run_tk_ne {a b c d e f : Int} (h : (⟨a, b, c⟩ : Tk) ≠ ⟨d, e, f⟩) (w : World) : (binOp .eql 26 (.agg #[.int .i64 a, .int .i64 b, .int .i64 c]) (.agg #[.int .i64 d, .int .i64 e, .int .i64 f])).run Try.prog w = .ok (.bool false) w := by
  have := run_tk_eq ⟨a, b, c⟩ ⟨d, e, f⟩ w
  rwa [show tkEq ⟨a, b, c⟩ ⟨d, e, f⟩ = false from by rw [Bool.eq_false_iff]; exact fun q => h (tkEq_iff.1 q)] at this
end Go.Proofs.Ytgdkmakmdomdbaa
