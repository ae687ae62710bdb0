import Derived.Test.YtdngkeefbpffcaaFlL
import Derived.Deep.Slices
import Derived.Deep.Fields
import Derived.ChangeSame
set_option autoImplicit false
set_option linter.unusedVariables false
namespace Lk
open Go Go.RowKit Go.ChangeShapes Go.WideShapes Go.Deep
/-! Arguments that lead into memory. -/
/-- v reads as data of type t in W, to its ends, all of it in W's own blocks. -/
def Rd (P : Program) (W : World) (t : TypeId) (cs : List Value) : Prop :=
  ∃ (H : Type) (enc : TypeId × Value → H) (fuel : Nat) (d : DataW H) (ps : List MemPlace), DataW.trod enc P W 0 (fun _ => true) true fuel t cs = some (d, ps) ∧ ∀ x ∈ ps, x.block < W.heap.size

/-- what a one-cell field is -/
def Rd1 (P : Program) (W : World) (t : TypeId) (v : Value) : Prop := Rd P W t [v]
theorem rd_float {P : Program} {W : World} {t : TypeId} {cs : List Value} (ht : P.underlying t = some (.float .f64)) (h : Rd P W t cs) : ∃ b, cs = [.float .f64 b] ∧ b < 2 ^ 64 := by
  obtain ⟨H, enc, fuel, d, ps, h, _⟩ := h
  cases fuel with
  | zero => simp [DataW.trod] at h
  | succ n =>
    unfold DataW.trod at h
    rw [ht] at h
    match cs, h with
    | [.float k b], h =>
      simp only at h
      split at h
      · rename_i hk
        obtain ⟨rfl, hw⟩ := hk
        exact ⟨b, rfl, by simpa [Lit.wf] using hw⟩
      · cases h
theorem rd_int {P : Program} {W : World} {t : TypeId} {k : IntKind} {cs : List Value} (ht : P.underlying t = some (.int k)) (h : Rd P W t cs) : ∃ n, cs = [.int k n] ∧ k.min ≤ n ∧ n ≤ k.max := by
  obtain ⟨H, enc, fuel, d, ps, h, _⟩ := h
  cases fuel with
  | zero => simp [DataW.trod] at h
  | succ n =>
    unfold DataW.trod at h
    rw [ht] at h
    match cs, h with
    | [.int k' b], h =>
      simp only at h
      split at h
      · rename_i hk
        obtain ⟨rfl, hw⟩ := hk
        exact ⟨b, rfl, by simpa [Lit.wf] using hw⟩
      · cases h
theorem rd_bool {P : Program} {W : World} {t : TypeId} {cs : List Value} (ht : P.underlying t = some .bool) (h : Rd P W t cs) : ∃ b, cs = [.bool b] := by
  obtain ⟨H, enc, fuel, d, ps, h, _⟩ := h
  cases fuel with
  | zero => simp [DataW.trod] at h
  | succ n =>
    unfold DataW.trod at h
    rw [ht] at h
    match cs, h with
    | [.bool b], h => exact ⟨b, rfl⟩

theorem cells_some {w : World} {a : Addr} {n : Nat} {cs : List Value} (h : w.cells? 0 a n = some cs) : cs.length = n ∧ ∀ i, i < n → w.cell? (a.add i) = cs[i]? := ⟨(World.cells?_some h).2.1, (World.cells?_some h).2.2⟩

/-- a slice: nil, or its elements' cells, each of which reads. -/
theorem rd_slice {P : Program} {W : World} {t e : TypeId} {cs : List Value} (ht : P.underlying t = some (.slice e)) (hC : 0 < P.cellsOf e) (h : Rd P W t cs) :
    cs = [.slice none 0 0] ∨ ∃ (a : Addr) (len cap : Nat), cs = [.slice (some a) len cap] ∧ len ≤ cap ∧ cap ≤ maxLen ∧
      ∀ i, i < cap → ∃ cs' : List Value, cs'.length = P.cellsOf e ∧ (∀ j, j < P.cellsOf e → W.cell? (a.add (i * P.cellsOf e + j)) = cs'[j]?) ∧ Rd P W e cs' := by
  obtain ⟨H, enc, fuel, d, ps, h, hp⟩ := h
  rcases open_slice ht h with ⟨rfl, _⟩ | ⟨a, len, cap, m, n, D, Pl, rfl, hb, hl, hm, hmm, hx, hi⟩
  · exact .inl rfl
  · obtain rfl : m = cap := hmm
    simp only [Prod.mk.injEq] at hx
    refine .inr ⟨a, len, m, rfl, hl, hm, fun i him => ?_⟩
    obtain ⟨cs', h1, h2⟩ := hi i him
    obtain ⟨l1, l2⟩ := cells_some h1
    refine ⟨cs', l1, fun j hj => ?_, H, enc, n, D i, Pl i, h2, fun x hxx => hp x ?_⟩
    · rw [← add_add]; exact l2 j hj
    · rw [hx.2]
      exact List.mem_append_right _ (List.mem_flatMap.2 ⟨i, List.mem_range.2 him, hxx⟩)
/-- a struct: each field reads -/
theorem rd_struct {P : Program} {W : World} {t : TypeId} {fs : Array Field} {cs : List Value} (ht : P.underlying t = some (.struct fs)) (h : Rd P W t cs) :
    cs.length = P.cellsOf t ∧ ∀ (j : Nat) (f : Field), fs[j]? = some f → Rd P W f.type ((cs.drop f.offset).take (P.cellsOf f.type)) := by
  obtain ⟨H, enc, fuel, d, ps, h, hp⟩ := h
  obtain ⟨xs, n, hn, hx, hlen, hxl, hf⟩ := DataW.trod_struct ht h
  simp only [Prod.mk.injEq] at hx
  refine ⟨hlen, fun j f hj => ?_⟩
  have h1 := hf j f hj
  have hjl : j < fs.size := (Array.getElem?_eq_some_iff.1 hj).1
  have hys : xs[j]? = some (xs[j]'(by omega)) := List.getElem?_eq_getElem (by omega)
  refine ⟨H, enc, n, _, _, h1.trans hys, fun x hxx => hp x ?_⟩
  rw [hx.2]
  exact List.mem_flatMap.2 ⟨xs[j]'(by omega), List.getElem_mem _, hxx⟩
/-- a pointer: nil, or the cells, which read -/
theorem rd_ptr {P : Program} {W : World} {t e : TypeId} {cs : List Value} (ht : P.underlying t = some (.pointer e)) (h : Rd P W t cs) :
    cs = [.pointer none] ∨ ∃ (a : Addr) (cs' : List Value), cs = [.pointer (some a)] ∧ cs'.length = P.cellsOf e ∧ (∀ j, j < P.cellsOf e → W.cell? (a.add j) = cs'[j]?) ∧ Rd P W e cs' ∧ (0 < P.cellsOf e → a.block < W.heap.size) := by
  obtain ⟨H, enc, fuel, d, ps, h, hp⟩ := h
  cases fuel with
  | zero => simp [DataW.trod] at h
  | succ n =>
    unfold DataW.trod at h
    rw [ht] at h
    match cs, h with
    | [.pointer none], h => exact .inl rfl
    | [.pointer (some a)], h =>
      simp only [Option.map_eq_some_iff, Option.bind_eq_some_iff] at h
      obtain ⟨x, ⟨cs', h1, h2⟩, h3⟩ := h
      simp only [Prod.mk.injEq] at h3
      obtain ⟨l1, l2⟩ := cells_some h1
      refine .inr ⟨a, cs', rfl, l1, l2, ⟨H, enc, n, x.1, x.2, h2, fun y hy => hp y (by rw [← h3.2]; exact List.mem_append_right _ hy)⟩, fun h0 => ?_⟩
      exact hp (.cell a.block (a.off + 0)) (by rw [← h3.2]; exact List.mem_append_left _ (List.mem_map.2 ⟨0, List.mem_range.2 h0, rfl⟩))

/-- cells lie where no spot is -/
theorem cell_spot {w : World} {a : Addr} {v : Value} (h : w.cell? a = some v) : a.spot = none ∧ a.block < w.heap.size := by
  unfold World.cell? at h
  split at h
  · rename_i heq
    refine ⟨by split at h <;> simp_all, ?_⟩
    exact (Array.getElem?_eq_some_iff.1 heq).1
  · cases h

/-- A SLICE OF STRUCTS OF ONE-CELL FIELDS, or of one-cell elements: nil or empty, or a row of cells. n: cells an element. -/
theorem rd_row {P : Program} {W : World} {t e : TypeId} {n : Nat} {cs : List Value} (ht : P.underlying t = some (.slice e)) (hC : P.cellsOf e = n) (hn : 0 < n) (h : Rd P W t cs) :
    ∃ (a : Option Addr) (len cap : Nat), cs = [.slice a len cap] ∧ len ≤ cap ∧ cap ≤ maxLen ∧ (len = 0 ∨ ∃ b off, b < W.heap.size ∧ a = some ⟨b, off, none⟩ ∧
      ∀ i, i < len → ∃ cs' : List Value, cs'.length = n ∧ (∀ j, j < n → W.cell? ⟨b, off + (i * n + j), none⟩ = cs'[j]?) ∧ Rd P W e cs') := by
  rcases rd_slice ht (by omega) h with rfl | ⟨a, len, cap, rfl, h1, h2, h3⟩
  · exact ⟨none, 0, 0, rfl, Nat.le_refl _, Nat.zero_le _, .inl rfl⟩
  · refine ⟨some a, len, cap, rfl, h1, h2, ?_⟩
    by_cases h0 : len = 0
    · exact .inl h0
    · rw [hC] at h3
      obtain ⟨c0, l0, g0, _⟩ := h3 0 (by omega)
      have g := g0 0 hn
      rw [List.getElem?_eq_getElem (by omega)] at g
      have g' : W.cell? a = some (c0[0]'(by omega)) := by simpa [Addr.add] using g
      obtain ⟨sp, bl⟩ := cell_spot g'
      obtain ⟨b, off, spot⟩ := a
      obtain rfl : spot = none := sp
      refine .inr ⟨b, off, bl, rfl, fun i hi => ?_⟩
      obtain ⟨cs', k1, k2, k3⟩ := h3 i (by omega)
      refine ⟨cs', k1, fun j hj => ?_, k3⟩
      rw [← k2 j hj]
      unfold Addr.add
      split
      · rename_i hz; rw [hz]; rfl
      · rfl

theorem trodAll_get {H : Type} {enc : TypeId × Value → H} {P : Program} {w : World} {base : Nat} {spare : Nat → Bool} {held : Bool} : ∀ (ts : List TypeId) (vs : List Value) (ds : List (DataW H)) (ps : List MemPlace),
    DataW.TrodAll enc P w base spare held ts vs ds ps → ∀ (j : Nat) t v, ts[j]? = some t → vs[j]? = some v → ∃ d qs, DataW.Trod enc P w base spare held t v d qs ∧ ∀ x ∈ qs, x ∈ ps
  | [], vs, ds, ps, h, j, t, v, hj, _ => by simp at hj
  | t :: ts, vs, ds, ps, h, j, t', v', hj, hv => by
    cases vs <;> cases ds <;> simp only [DataW.TrodAll] at h
    obtain ⟨p, q, h1, h2, rfl⟩ := h
    cases j with
    | zero =>
      simp only [List.getElem?_cons_zero, Option.some.injEq] at hj hv
      subst hj; subst hv
      exact ⟨_, p, h1, fun x hx => List.mem_append_left _ hx⟩
    | succ j =>
      simp only [List.getElem?_cons_succ] at hj hv
      obtain ⟨d, qs, h3, h4⟩ := trodAll_get ts _ _ q h2 j t' v' hj hv
      exact ⟨d, qs, h3, fun x hx => List.mem_append_right _ (h4 x hx)⟩

/-- A LAW's ROW, out of its walk: arguments that may lead into memory. -/
theorem law_lifted_s {C : Checked} {os : Os} {fnum : FuncId} {f : Func} {s : ChangeSpec} {tb : TypeId} {H : Type} {enc : TypeId × Value → H} {conds : List PathCond}
    (own : ownKnob C.prog.godebug = none) (started : os.Started) (noInit : C.prog.inits.idxOf? fnum = none) (hf : C.prog.funcs[fnum]? = some f)
    (witness : ∃ (w : World) (tape : Tape) (i : Input), w.os = os ∧ (w.forCall tape i).Shaped C.prog ∧ i.vars = [] ∧ Input.okWide C.prog (w.forCall tape i) .any w.heap.size fnum i ∧
      s.pre6 enc C.prog f conds false (w.forCall tape i).memory i.args ∧ ({} : Assume).holds C.prog (lone (Frame.enter C.prog fnum i.args .normal) [] (w.forCall tape i)))
    (hl : laidOutB C.prog = true) (hp : ∀ t ∈ f.params.toList, C.prog.readableRec t = true ∧ t < C.prog.types.size) (hres : f.resultTypes = #[tb]) (hb : C.prog.underlying tb = some .bool) (hvars : s.vars = [])
    (hfn : ∀ ds : List (DataW H), ds.length = f.params.size → (s.fn H ds).results = [.lit (.bool true)] ∧ (s.fn H ds).args = ds ∧ (s.fn H ds).vars = [])
    (hlaw : ∀ (W : World) (base : Nat) (args : Array Value), args.size = f.params.size → (∀ (j : Nat) t v, f.params[j]? = some t → args[j]? = some v → Value.okWide C.prog W .any base t v) →
      (∀ (j : Nat) t v, f.params[j]? = some t → args[j]? = some v → Rd C.prog W t v.cells.toList) →
      Calls C.prog fnum args W (fun e w' => e = .returned (.bool true) ∧ Below W.heap.size W w')) :
    ReturnsInHanded {} C os fnum .any (s.pre6 enc C.prog f conds false) (s.post enc C.prog f false true false false) := by
  refine returnsInHanded_of_change own started noInit hf witness ?_
  intro W base args ds gs before hval hW _ _
  have hW' := hW
  obtain ⟨p, q, hA, hV, hps, hfz, hnd⟩ := hW
  obtain ⟨h1, h2⟩ := trodAll_length _ _ _ _ hA
  refine (hlaw W base args (by simpa using h1) hval (fun j t v hj hv => ?_)).mono fun e W' ⟨he, hg⟩ => ?_
  · obtain ⟨d, qs, ⟨fuel, h3⟩, h4⟩ := trodAll_get _ _ _ _ hA j t v (by simpa using hj) (by simpa using hv)
    exact ⟨H, enc, fuel, d, qs, h3, fun x hx => hW'.lt x (by rw [hps]; exact List.mem_append_left _ (h4 x hx))⟩
  · exact ⟨_, he, law_post hl hp hres hb hvars (hfn ds (by simpa using h2)) hW' hg⟩
end Lk
