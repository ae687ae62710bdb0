import Derived.ProofKit
import Derived.OpenShut
import Derived.Carry
import Derived.Laws.Cover2
set_option autoImplicit false
namespace Lk
open Go Go.RowKit Go.ChangeShapes Go.WideShapes

theorem trodAll_stays {H : Type} {enc : TypeId × Value → H} {P : Program} (hl : laidOutB P = true) {W W' : World} (hb : Below W.heap.size W W') : ∀ (ts : List TypeId) (vs : List Value) (ds : List (DataW H)) (ps : List MemPlace),
    (∀ t ∈ ts, P.readableRec t = true ∧ t < P.types.size) → DataW.TrodAll enc P W 0 (fun _ => true) true ts vs ds ps → (∀ x ∈ ps, x.block < W.heap.size) →
    DataW.TrodAll enc P W' 0 (fun b => decide (b < W.heap.size)) true ts vs ds ps
  | [], vs, ds, ps, _, h, _ => by
    cases vs <;> cases ds <;> simp only [DataW.TrodAll] at h ⊢
    exact h
  | t :: ts, vs, ds, ps, hr, h, hlt => by
    cases vs <;> cases ds <;> simp only [DataW.TrodAll] at h ⊢
    obtain ⟨p, q, h1, h2, rfl⟩ := h
    obtain ⟨r1, r2⟩ := hr t (List.mem_cons_self ..)
    exact ⟨p, q, Below.trod hl r1 r2 h1 hb (fun x hx => hlt x (List.mem_append_left _ hx)),
      trodAll_stays hl hb ts _ _ q (fun t' ht => hr t' (List.mem_cons_of_mem _ ht)) h2 (fun x hx => hlt x (List.mem_append_right _ hx)), rfl⟩

/-- A LAW's ROW BEHIND THE CALL: it handed back true, nothing that was there has turned. -/
theorem law_post {H : Type} {enc : TypeId × Value → H} {P : Program} {f : Func} {s : ChangeSpec} {W W' : World} {args : Array Value} {ds gs : List (DataW H)} {before : List MemPlace} {tb : TypeId}
    (hl : laidOutB P = true) (hp : ∀ t ∈ f.params.toList, P.readableRec t = true ∧ t < P.types.size) (hres : f.resultTypes = #[tb]) (hb : P.underlying tb = some .bool) (hvars : s.vars = [])
    (hfn : (s.fn H ds).results = [.lit (.bool true)] ∧ (s.fn H ds).args = ds ∧ (s.fn H ds).vars = [])
    (hW : DataW.Whole enc P f.params.toList s.vars false W args.toList ds gs before) (hbel : Below W.heap.size W W') : s.post enc P f false true false false W args (.bool true) W' := by
  have hW' := hW
  obtain ⟨p, q, hA, hV, hps, hfz, hnd⟩ := hW
  rw [hvars] at hV
  obtain ⟨rfl, rfl⟩ := trodVars_none hV
  rw [List.append_nil] at hps
  subst hps
  have hlt : ∀ x ∈ before, x.block < W.heap.size := fun x hx => hW'.lt x hx
  refine ⟨ds, [], before, [], before, [], hW', ?_, ?_, ?_, World.keptBut_mono (fun x hx => hx) (hbel.frame _), fun h => by cases h⟩
  · rw [List.append_nil, hfn.1, hres]
    exact trodAll_mk1 (shut_bool hb _)
  · rw [List.append_nil, hfn.2.1]
    exact trodAll_stays hl hbel _ _ _ _ hp hA hlt
  · rw [List.append_nil, hfn.2.2, hvars]; rfl

/-- what an argument is, out of its type's outer form -/
theorem ok_float {P : Program} {w : World} {r : Reach} {base : Nat} {t : TypeId} {v : Value} (ht : P.underlying t = some (.float .f64)) (h : Value.okWide P w r base t v) : ∃ b, v = .float .f64 b ∧ b < 2 ^ 64 := by
  simp only [Value.okWide, ht, Cell.okWide] at h
  cases v <;> simp only [Cell.ok, ht] at h
  obtain ⟨rfl, h⟩ := h
  exact ⟨_, rfl, h⟩
theorem ok_int {P : Program} {w : World} {r : Reach} {base : Nat} {t : TypeId} {k : IntKind} {v : Value} (ht : P.underlying t = some (.int k)) (h : Value.okWide P w r base t v) : ∃ n, v = .int k n ∧ k.min ≤ n ∧ n ≤ k.max := by
  simp only [Value.okWide, ht, Cell.okWide] at h
  cases v <;> simp only [Cell.ok, ht] at h
  obtain ⟨rfl, h⟩ := h
  exact ⟨_, rfl, h⟩
theorem ok_bool {P : Program} {w : World} {r : Reach} {base : Nat} {t : TypeId} {v : Value} (ht : P.underlying t = some .bool) (h : Value.okWide P w r base t v) : ∃ b, v = .bool b := by
  simp only [Value.okWide, ht, Cell.okWide] at h
  cases v <;> simp only [Cell.ok, ht] at h
  exact ⟨_, rfl⟩
/-- a struct or an array, cell by cell -/
theorem ok_agg {P : Program} {w : World} {r : Reach} {base : Nat} {t : TypeId} {v : Value} {ts : List TypeId} (ht : (match P.underlying t with | some (.struct _) | some (.array _ _) => true | _ => false) = true)
    (hts : P.cellTypes P.depth t = some ts) (hc : P.cellsOf t = ts.length) (h : Value.okWide P w r base t v) :
    ∃ cs, v = .agg cs ∧ cs.size = ts.length ∧ ∀ (i : Nat) (x : Value) (u : TypeId), cs[i]? = some x → ts[i]? = some u → Cell.okWide P w r base u x := by
  have h' : ∃ cs, v = .agg cs ∧ cs.size = P.cellsOf t ∧ Row.okWide P w r base t cs := by
    unfold Value.okWide at h
    split at ht <;> simp_all
  obtain ⟨cs, hv, hsz, ts', hts', _, hcell⟩ := h'
  rw [hts] at hts'
  cases hts'
  refine ⟨cs, hv, hsz.trans hc, fun i x u hx hu => ?_⟩
  obtain ⟨u', hu', hok⟩ := hcell i x hx
  have hi : i < ts.length := by
    have := (Array.getElem?_eq_some_iff.1 hx).1
    omega
  rw [Nat.mod_eq_of_lt hi, hu] at hu'
  cases hu'
  exact hok
theorem cell_float {P : Program} {w : World} {r : Reach} {base : Nat} {t : TypeId} {v : Value} (ht : P.underlying t = some (.float .f64)) (h : Cell.okWide P w r base t v) : ∃ b, v = .float .f64 b ∧ b < 2 ^ 64 := by
  simp only [Cell.okWide, ht] at h
  cases v <;> simp only [Cell.ok, ht] at h
  obtain ⟨rfl, h⟩ := h
  exact ⟨_, rfl, h⟩
theorem cell_int {P : Program} {w : World} {r : Reach} {base : Nat} {t : TypeId} {k : IntKind} {v : Value} (ht : P.underlying t = some (.int k)) (h : Cell.okWide P w r base t v) : ∃ n, v = .int k n ∧ k.min ≤ n ∧ n ≤ k.max := by
  simp only [Cell.okWide, ht] at h
  cases v <;> simp only [Cell.ok, ht] at h
  obtain ⟨rfl, h⟩ := h
  exact ⟨_, rfl, h⟩
/-- n floats -/
theorem ok_floats {P : Program} {w : World} {r : Reach} {base : Nat} {t tf : TypeId} {v : Value} (n : Nat) (hf : P.underlying tf = some (.float .f64)) (ht : (match P.underlying t with | some (.struct _) | some (.array _ _) => true | _ => false) = true)
    (hts : P.cellTypes P.depth t = some (List.replicate n tf)) (hc : P.cellsOf t = n) (h : Value.okWide P w r base t v) :
    ∃ l : List Nat, l.length = n ∧ v = .agg (l.map (Value.float .f64)).toArray ∧ ∀ x ∈ l, x < 2 ^ 64 := by
  obtain ⟨cs, rfl, hsz, hcell⟩ := ok_agg ht hts (by simpa using hc) h
  have key : ∀ l : List Value, (∀ x ∈ l, ∃ b, x = .float .f64 b ∧ b < 2 ^ 64) → ∃ m : List Nat, m.length = l.length ∧ l = m.map (Value.float .f64) ∧ ∀ x ∈ m, x < 2 ^ 64 := by
    intro l
    induction l with
    | nil => intro _; exact ⟨[], rfl, rfl, fun _ hx => by cases hx⟩
    | cons a l ih =>
      intro hl
      obtain ⟨b, rfl, hb⟩ := hl _ (List.mem_cons_self ..)
      obtain ⟨m, h1, h2, h3⟩ := ih (fun x hx => hl x (List.mem_cons_of_mem _ hx))
      exact ⟨b :: m, by simp [h1], by simp [← h2], fun x hx => by rcases List.mem_cons.1 hx with rfl | hx; exact hb; exact h3 x hx⟩
  obtain ⟨m, h1, h2, h3⟩ := key cs.toList (fun x hx => by
    obtain ⟨i, hi, rfl⟩ := List.getElem_of_mem hx
    have hi' : i < n := by simpa [hsz] using hi
    exact cell_float hf (hcell i _ tf (by simp) (by simp [hi'])))
  exact ⟨m, by rw [h1]; simpa using hsz, by rw [← h2], h3⟩

theorem trodAll_length {H : Type} {enc : TypeId × Value → H} {P : Program} {w : World} {base : Nat} {spare : Nat → Bool} {held : Bool} : ∀ (ts : List TypeId) (vs : List Value) (ds : List (DataW H)) (ps : List MemPlace),
    DataW.TrodAll enc P w base spare held ts vs ds ps → vs.length = ts.length ∧ ds.length = ts.length
  | [], vs, ds, ps, h => by cases vs <;> cases ds <;> simp only [DataW.TrodAll] at h; exact ⟨rfl, rfl⟩
  | t :: ts, vs, ds, ps, h => by
    cases vs <;> cases ds <;> simp only [DataW.TrodAll] at h
    obtain ⟨p, q, _, h2, _⟩ := h
    have := trodAll_length ts _ _ q h2
    simp [this]

/-- A LAW's ROW, out of its walk: arguments by value. -/
theorem law_lifted {C : Checked} {os : Os} {fnum : FuncId} {f : Func} {s : ChangeSpec} {tb : TypeId} {H : Type} {enc : TypeId × Value → H} {conds : List PathCond}
    (own : ownKnob C.prog.godebug = none) (started : os.Started) (noInit : C.prog.inits.idxOf? fnum = none) (hf : C.prog.funcs[fnum]? = some f)
    (witness : ∃ (w : World) (tape : Tape) (i : Input), w.os = os ∧ (w.forCall tape i).Shaped C.prog ∧ i.vars = [] ∧ Input.okWide C.prog (w.forCall tape i) .any w.heap.size fnum i ∧
      s.pre6 enc C.prog f conds false (w.forCall tape i).memory i.args ∧ ({} : Assume).holds C.prog (lone (Frame.enter C.prog fnum i.args .normal) [] (w.forCall tape i)))
    (hl : laidOutB C.prog = true) (hp : ∀ t ∈ f.params.toList, C.prog.readableRec t = true ∧ t < C.prog.types.size) (hres : f.resultTypes = #[tb]) (hb : C.prog.underlying tb = some .bool) (hvars : s.vars = [])
    (hfn : ∀ ds : List (DataW H), ds.length = f.params.size → (s.fn H ds).results = [.lit (.bool true)] ∧ (s.fn H ds).args = ds ∧ (s.fn H ds).vars = [])
    (hlaw : ∀ (W : World) (base : Nat) (args : Array Value), args.size = f.params.size → (∀ (j : Nat) t v, f.params[j]? = some t → args[j]? = some v → Value.okWide C.prog W .any base t v) →
      Calls C.prog fnum args W (fun e w' => e = .returned (.bool true) ∧ Below W.heap.size W w')) :
    ReturnsInHanded {} C os fnum .any (s.pre6 enc C.prog f conds false) (s.post enc C.prog f false true false false) := by
  refine returnsInHanded_of_change own started noInit hf witness ?_
  intro W base args ds gs before hval hW _ _
  obtain ⟨h1, h2⟩ := trodAll_length _ _ _ _ hW.choose_spec.choose_spec.1
  refine (hlaw W base args (by simpa using h1) hval).mono fun e W' ⟨he, hg⟩ => ?_
  exact ⟨_, he, law_post hl hp hres hb hvars (hfn ds (by simpa using h2)) hW hg⟩
end Lk
