import Derived.Test.YtoobpiednigcgaaSmGd
import Derived.Test.YtoobpiednigcgaaFlP
set_option autoImplicit false
set_option linter.unusedVariables false
namespace Go.Proofs.Ytoobpiednigcgaa
open Go.RowKit Lk
/-- what the calls hand back -/
structure TX (f : FuncId) (args : Array Value) (u : Value) (w : World) : Prop where
  t31 : f = 31 → ∃ a b c d v, args = #[.float .f64 a, .float .f64 b, .float .f64 c, .float .f64 d] ∧ u = .float .f64 v ∧ v < 2 ^ 64 ∧ Is v (crossF a b c d)
  t52 : f = 52 → ∃ a b c d v, args = #[.float .f64 a, .float .f64 b, .float .f64 c, .float .f64 d] ∧ u = .float .f64 v ∧ v < 2 ^ 64 ∧ Is v (pairF a b c d)
theorem tx_31 (a b c d : Nat) (w : World) : Calls Try.prog 31 #[.float .f64 a, .float .f64 b, .float .f64 c, .float .f64 d] w (fun e w'' => ∃ u, e = .returned u ∧ TX 31 #[.float .f64 a, .float .f64 b, .float .f64 c, .float .f64 d] u w'' ∧ Ext w w'') :=
  (cross_walk a b c d a b c d w (Is.refl _) (Is.refl _) (Is.refl _) (Is.refl _)).mono fun e w' ⟨v, he, hv, hb⟩ => ⟨_, he, ⟨fun _ => ⟨a, b, c, d, v, rfl, rfl, hv.2, hv.1⟩, (fun h => absurd h (by decide))⟩, hb⟩
theorem tx_52 (a b c d : Nat) (w : World) : Calls Try.prog 52 #[.float .f64 a, .float .f64 b, .float .f64 c, .float .f64 d] w (fun e w'' => ∃ u, e = .returned u ∧ TX 52 #[.float .f64 a, .float .f64 b, .float .f64 c, .float .f64 d] u w'' ∧ Ext w w'') :=
  (pair_walk a b c d a b c d w (Is.refl _) (Is.refl _) (Is.refl _) (Is.refl _)).mono fun e w' ⟨v, he, hv, hb⟩ => ⟨_, he, ⟨(fun h => absurd h (by decide)), fun _ => ⟨a, b, c, d, v, rfl, rfl, hv.2, hv.1⟩⟩, hb⟩
/-- gained's own blocks -/
structure GW (w : World) (s p n : St) (c : Array Value) (w1 : World) : Prop where
  bs : Bs w1 w.heap.size s
  bp : Bs w1 (w.heap.size + 1) p
  bn : Bs w1 (w.heap.size + 1 + 1) n
  br : Bs w1 (w.heap.size + 1 + 1 + 1) ⟨0, 0, 0, 0, 0⟩
  bc : w1.heap[w.heap.size + 1 + 1 + 1 + 1]? = some (.cells c 75 (0, 0))
  hb : Below w.heap.size w w1
theorem GW.lt {w w1 : World} {s p n : St} {c : Array Value} (h : GW w s p n c w1) : w.heap.size + 1 + 1 + 1 + 1 < w1.heap.size := (Array.getElem?_eq_some_iff.1 h.bc).1
theorem GW.keep {w w1 w2 : World} {s p n : St} {c : Array Value} (h : GW w s p n c w1) (b : Below w1.heap.size w1 w2) : GW w s p n c w2 :=
  ⟨h.bs.keep b, h.bp.keep b, h.bn.keep b, h.br.keep b, (b.block _ h.lt).trans h.bc, h.hb.trans (b.mono h.hb.size)⟩
theorem GW.store {w w1 w2 : World} {s p n : St} {c c' : Array Value} (h : GW w s p n c w1) (hc : w2.heap[w.heap.size + 1 + 1 + 1 + 1]? = some (.cells c' 75 (0, 0))) (o : Only (w.heap.size + 1 + 1 + 1 + 1) w1 w2) : GW w s p n c' w2 :=
  ⟨(o.block _ (by omega)).trans h.bs, (o.block _ (by omega)).trans h.bp, (o.block _ (by omega)).trans h.bn, (o.block _ (by omega)).trans h.br, hc, h.hb.trans (o.below (by omega))⟩
theorem GW.start (w : World) (s p n : St) (k : Nat) : GW w s p n #[.float .f64 0, .float .f64 0, .float .f64 0, .float .f64 0] ((((((w.alloc (.cells #[.float .f64 s.x, .float .f64 s.v, .float .f64 s.pxx, .float .f64 s.pxv, .float .f64 s.pvv] 27)).alloc (.cells #[.float .f64 p.x, .float .f64 p.v, .float .f64 p.pxx, .float .f64 p.pxv, .float .f64 p.pvv] 27)).alloc (.cells #[.float .f64 n.x, .float .f64 n.v, .float .f64 n.pxx, .float .f64 n.pxv, .float .f64 n.pvv] 27)).alloc (.cells #[.float .f64 0, .float .f64 0, .float .f64 0, .float .f64 0, .float .f64 0] 27)).alloc (.cells #[.float .f64 0, .float .f64 0, .float .f64 0, .float .f64 0] 75)).drewN k) := by
  refine ⟨((((Bs.new' w s rfl).old _).old _).old _).old _, (((Bs.new' _ p (by simp only [szA])).old _).old _).old _, ((Bs.new' _ n (by simp only [szA])).old _).old _, (Bs.new' _ ⟨0, 0, 0, 0, 0⟩ (by simp only [szA])).old _, ?_, by (repeat' (first | exact Below.refl _ _ | refine below_drewN ?_ _ | refine Below.setCell ?_ (by first | exact Nat.le_refl _ | (simp; done) | (simp; omega)) _ | refine Below.alloc ?_ (by first | exact Nat.le_refl _ | (simp; done) | (simp; omega)) _))⟩
  rw [hpD, al, if_pos (by simp only [szA])]
/-- and its second array -/
structure GT (w : World) (s p n : St) (c : Array Value) (B : Nat) (t : Array Value) (w1 : World) : Prop where
  g : GW w s p n c w1
  bt : w1.heap[B]? = some (.cells t 75 (0, 0))
  hB : w.heap.size + 1 + 1 + 1 + 1 < B
theorem GT.keep {w w1 w2 : World} {s p n : St} {c t : Array Value} {B : Nat} (h : GT w s p n c B t w1) (b : Below w1.heap.size w1 w2) : GT w s p n c B t w2 :=
  ⟨h.g.keep b, (b.block _ (Array.getElem?_eq_some_iff.1 h.bt).1).trans h.bt, h.hB⟩
theorem GW.only {w w1 w2 : World} {s p n : St} {c : Array Value} {B : Nat} (h : GW w s p n c w1) (o : Only B w1 w2) (hB : w.heap.size + 1 + 1 + 1 + 1 < B) : GW w s p n c w2 :=
  ⟨(o.block _ (by omega)).trans h.bs, (o.block _ (by omega)).trans h.bp, (o.block _ (by omega)).trans h.bn, (o.block _ (by omega)).trans h.br, (o.block _ (by omega)).trans h.bc, h.hb.trans (o.below (by omega))⟩
theorem GT.only {w w1 w2 : World} {s p n : St} {c t : Array Value} {B g : Nat} (h : GT w s p n c B t w1) (o : Only g w1 w2) (hg : B < g) : GT w s p n c B t w2 :=
  ⟨h.g.only o (by have := h.hB; omega), (o.block _ (by omega)).trans h.bt, h.hB⟩
theorem GT.store {w w1 w2 : World} {s p n : St} {c t t' : Array Value} {B : Nat} (h : GT w s p n c B t w1) (hc : w2.heap[B]? = some (.cells t' 75 (0, 0))) (o : Only B w1 w2) : GT w s p n c B t' w2 := ⟨h.g.only o h.hB, hc, h.hB⟩
/-- behind the first loop -/
def Mid1 (w : World) (s p P nx : St) (dt D : Nat) (wx : World) : Prop := ∃ c00 c01 c10 c11, GW w s p nx #[.float .f64 c00, .float .f64 c01, .float .f64 c10, .float .f64 c11] wx ∧
  Is c00 (gnF s P dt D).c00 ∧ Is c01 (gnF s P dt D).c01 ∧ Is c10 (gnF s P dt D).c10 ∧ Is c11 (gnF s P dt D).c11
/-- behind the second one -/
def Mid2 (w : World) (s p P nx : St) (dt D : Nat) (C : Array Value) (B : Nat) (wx : World) : Prop := ∃ t00 t01 t10 t11, GT w s p nx C B #[.float .f64 t00, .float .f64 t01, .float .f64 t10, .float .f64 t11] wx ∧
  Is t00 (pairF (gnF s P dt D).c00 (fsub nx.pxx P.pxx) (gnF s P dt D).c01 (fsub nx.pxv P.pxv)) ∧ Is t01 (pairF (gnF s P dt D).c00 (fsub nx.pxv P.pxv) (gnF s P dt D).c01 (fsub nx.pvv P.pvv)) ∧
  Is t10 (pairF (gnF s P dt D).c10 (fsub nx.pxx P.pxx) (gnF s P dt D).c11 (fsub nx.pxv P.pxv)) ∧ Is t11 (pairF (gnF s P dt D).c10 (fsub nx.pxv P.pxv) (gnF s P dt D).c11 (fsub nx.pvv P.pvv))
/-- behind the new state -/
def Mid3 (w : World) (s p P nx : St) (dt D : Nat) (C : Array Value) (B : Nat) (T : Array Value) (g : Nat) (wx : World) : Prop := ∃ o : St, GT w s p nx C B T wx ∧ Bs wx g o ∧ IsS o (gain0F s P nx (gnF s P dt D)) ∧ St.Lt o ∧ B < g
theorem Bs.frozen {w : World} {g : Nat} {s : St} (h : Bs w g s) (i : Nat) : w.frozen? ⟨g, i, none⟩ = false := by unfold World.frozen?; rw [h]; rfl
theorem only_set (w : World) (g i : Nat) (v : Value) : Only g w (w.setCell ⟨g, i, none⟩ v) := ⟨rfl, rfl, rfl, by simp [World.setCell], fun k hk => Deep.blk_setCell_other _ _ _ _ hk⟩
theorem Bs.set2 {w : World} {g : Nat} {s : St} (h : Bs w g s) (v : Nat) : Bs (w.setCell ⟨g, 2, none⟩ (.float .f64 v)) g { s with pxx := v } := by
  unfold Bs; rw [setCell_eq_setRow w g 2 _ _ _ _ h]; exact setRow_heap w g _ _ _ _ h
theorem Bs.set4 {w : World} {g : Nat} {s : St} (h : Bs w g s) (v : Nat) : Bs (w.setCell ⟨g, 4, none⟩ (.float .f64 v)) g { s with pvv := v } := by
  unfold Bs; rw [setCell_eq_setRow w g 4 _ _ _ _ h]; exact setRow_heap w g _ _ _ _ h
def Mid4 (w : World) (s p P nx : St) (dt D : Nat) (C : Array Value) (B : Nat) (T : Array Value) (g : Nat) (wx : World) : Prop := ∃ o : St, GT w s p nx C B T wx ∧ Bs wx g o ∧ IsS o { gain0F s P nx (gnF s P dt D) with pxx := nnF (gain0F s P nx (gnF s P dt D)).pxx } ∧ St.Lt o
def Mid5 (w : World) (s p P nx : St) (dt D : Nat) (C : Array Value) (B : Nat) (T : Array Value) (g : Nat) (wx : World) : Prop := ∃ o : St, GT w s p nx C B T wx ∧ Bs wx g o ∧ IsS o (gainF s P nx dt D) ∧ St.Lt o
/-- what gained's last statement needs -/
def JF (w : World) (g : Nat) (o : St) (x : World) : Prop := Bs x g o ∧ Below w.heap.size w x ∧ ∃ c : Array Value, x.heap[w.heap.size + 1 + 1 + 1]? = some (.cells c 27 (0, 0)) ∧ c.size = 5
theorem JF.keep {w x y : World} {g : Nat} {o : St} (h : JF w g o x) (b : Below x.heap.size x y) : JF w g o y := by
  obtain ⟨h1, h2, c, h3, h4⟩ := h
  exact ⟨h1.keep b, h2.trans (b.mono h2.size), c, (b.block _ (Array.getElem?_eq_some_iff.1 h3).1).trans h3, h4⟩
theorem JF.alloc {w x : World} {g : Nat} {o : St} (h : JF w g o x) (ob : Obj) : JF w g o (x.alloc ob) := h.keep ((Below.refl _ x).alloc (Nat.le_refl _) ob)
theorem JF.only {w x y : World} {g : Nat} {o o' : St} (h : JF w g o x) (b : Only (w.heap.size + 1 + 1 + 1) x y) (hg : g ≠ w.heap.size + 1 + 1 + 1) (hn : Bs y (w.heap.size + 1 + 1 + 1) o') : JF w g o y := by
  obtain ⟨h1, h2, c, h3, h4⟩ := h
  exact ⟨(b.block _ hg).trans h1, h2.trans (b.below (by omega)), _, hn, rfl⟩
theorem fine5_walk (o : St) (g : Nat) (b : Bool) (w : World) (h : w.heap[g]? = some (.cells #[.float .f64 o.x, .float .f64 o.v, .float .f64 o.pxx, .float .f64 o.pxv, .float .f64 o.pvv] 24 (0, 0))) (hl : St.Lt o) (hb : finL [o.x, o.v, o.pxx, o.pxv, o.pvv] = b) :
    Calls Try.prog 29 #[.slice (some ⟨g, 0, none⟩) 5 5] w (fun e w' => e = .returned (.bool b) ∧ Below w.heap.size w w') := by
  have F : Fs w (some ⟨g, 0, none⟩) 5 5 [o.x, o.v, o.pxx, o.pxv, o.pvv] := ⟨rfl, by omega, by omega, (fun x hx => by
    simp only [List.mem_cons, List.not_mem_nil, or_false] at hx
    rcases hx with rfl | rfl | rfl | rfl | rfl
    · exact hl.x
    · exact hl.v
    · exact hl.pxx
    · exact hl.pxv
    · exact hl.pvv), .inr ⟨_, 0, rfl, (Array.getElem?_eq_some_iff.1 h).1, fun j hj => by
    rw [cell_of_heap h (0 + j)]
    match j, hj with
    | 0, _ => rfl
    | 1, _ => rfl
    | 2, _ => rfl
    | 3, _ => rfl
    | 4, _ => rfl⟩, fun h => by cases h⟩
  subst hb
  exact fine_walk _ _ _ _ _ F
def TF (o : St) (f : FuncId) (args : Array Value) (u : Value) (w : World) : Prop := f = 29 → u = .bool (finL [o.x, o.v, o.pxx, o.pxv, o.pvv])
theorem idx0 (x y z t : Value) (w : World) : (Instr.index 75 (.agg #[x, y, z, t]) (.int .i64 0)).run Try.prog w = .ok (.agg #[x, y]) w := by kernel_rfl
theorem idx1 (x y z t : Value) (w : World) : (Instr.index 75 (.agg #[x, y, z, t]) (.int .i64 1)).run Try.prog w = .ok (.agg #[z, t]) w := by kernel_rfl

set_option maxRecDepth 100000 in
set_option maxHeartbeats 8000000 in
theorem gained_walk (s p P nx : St) (dt d D : Nat) (w : World) (hp : IsS p P) (hd : Is d D) (hl : St.Lt s) :
    Calls Try.prog 32 #[sv5 s, sv5 p, sv5 nx, .float .f64 dt, .float .f64 d] w
      (fun e w' => ∃ o : St, e = .returned (.tuple #[sv5 o, .bool (finS (gainF s P nx dt D))]) ∧ IsS o (gainF s P nx dt D) ∧ St.Lt o ∧ Below w.heap.size w w') := by
  obtain ⟨i0, i1, i2, i3, i4⟩ := hp
  have hi0 := idx0
  have hi1 := idx1
  go_enter Try.func32, Try.ntmps32
  go_upto_block 0 with (first | ((with_reducible refine wpList_float (o := ⟨some 29, _, _, _, _, _⟩) (x := ?_) (y := ?_) (X := ?_) (Y := ?_) rfl rfl ?_ ?_ ?_ ?_ ?_ ?_); (· rfl); (rotate_left 4); (· rfl); (· rfl); (· first | assumption | exact Is.refl _); (· first | assumption | exact Is.refl _); intro x29 n29 h29 l29) | ((with_reducible refine wpList_float (o := ⟨some 30, _, _, _, _, _⟩) (x := ?_) (y := ?_) (X := ?_) (Y := ?_) rfl rfl ?_ ?_ ?_ ?_ ?_ ?_); (· rfl); (rotate_left 4); (· rfl); (· rfl); (· first | assumption | exact Is.refl _); (· first | assumption | exact Is.refl _); intro x30 n30 h30 l30) | ((with_reducible refine wpList_float (o := ⟨some 39, _, _, _, _, _⟩) (x := ?_) (y := ?_) (X := ?_) (Y := ?_) rfl rfl ?_ ?_ ?_ ?_ ?_ ?_); (· rfl); (rotate_left 4); (· rfl); (· rfl); (· first | assumption | exact Is.refl _); (· first | assumption | exact Is.refl _); intro x39 n39 h39 l39) | ((with_reducible refine wpList_float (o := ⟨some 40, _, _, _, _, _⟩) (x := ?_) (y := ?_) (X := ?_) (Y := ?_) rfl rfl ?_ ?_ ?_ ?_ ?_ ?_); (· rfl); (rotate_left 4); (· rfl); (· rfl); (· first | assumption | exact Is.refl _); (· first | assumption | exact Is.refl _); intro x40 n40 h40 l40))
  have m30 : Is x30 (fadd s.pxx (fmul dt s.pxv)) := h30
  have m40 : Is x40 (fadd s.pxv (fmul dt s.pvv)) := h40
  clear h29 h30 h39 h40 l29 l30 l39 l40
  refine wp_forget (GW w s p nx #[.float .f64 0, .float .f64 0, .float .f64 0, .float .f64 0]) (GW.start w s p nx _) ?_
  intro w1 g1
  have G1 := Lib.hid g1
  clear g1
  go_cut [] (fun wx => Mid1 w s p P nx dt D wx)
  case first =>
    as_aux_lemma =>
    go_wp2_with fail
    refine wp_loop_rounds 3 ?_
    skip
    rw [rounds_succ]
    go_wp2_with fail
  
    refine wp_forget (fun w2 => GW w s p nx #[.float .f64 0, .float .f64 0, .float .f64 0, .float .f64 0] w2 ∧ w2.heap[w1.heap.size]? = some (.cells #[.float .f64 x30, .float .f64 s.pxv] 74 (0, 0))) ⟨G1.out.keep ((Below.refl _ _).alloc (Nat.le_refl _) _), Deep.blk_alloc_new _ _⟩ ?_
    rintro w2 ⟨g, bm⟩
    have G2 := Lib.hid g
    obtain ⟨a0, a1⟩ := two_cells bm
    have c2 := g.bp.at.c2
    have c3 := g.bp.at.c3
    have c4 := g.bp.at.c4
    rw [Nat.zero_add] at c2 c3 c4
    have z1 := g.bp.lt
    have z2 := new_lt bm
    have zz := G1.out.lt
    clear g bm G1
    refine wp_region_G_tail 25 TX (by kernel_rfl) (by kernel_rfl) ?_
    simp only [List.take, List.drop]
    refine wpG_step' (fun K hA hK => ?_); go_simp; (refine bothG_value hA (v := ?_) (fun w' hw' => ?_) ?_; rotate_left; (· go_simp; rfl); (refine hK _ _ ?_; clear hK hA K))
    refine wpG_step' (fun K hA hK => ?_); go_simp; (refine bothG_value hA (v := ?_) (fun w' hw' => ?_) ?_; rotate_left; (· go_simp; rfl); (refine hK _ _ ?_; clear hK hA K))
    refine wpG_step' (fun K hA hK => ?_); go_simp; (refine bothG_value hA (v := ?_) (fun w' hw' => ?_) ?_; rotate_left; (· go_simp; rfl); (refine hK _ _ ?_; clear hK hA K))
    refine wpG_step' (fun K hA hK => ?_); go_simp; (refine bothG_value hA (v := ?_) (fun w' hw' => ?_) ?_; rotate_left; (· go_simp; rfl); (refine hK _ _ ?_; clear hK hA K))
    refine wpG_step' (fun K hA hK => ?_); go_simp; (refine bothG_value hA (v := ?_) (fun w' hw' => ?_) ?_; rotate_left; (· go_simp; rfl); (refine hK _ _ ?_; clear hK hA K))
    refine wpG_step' (fun K hA hK => ?_); go_simp; (refine bothG_value hA (v := ?_) (fun w' hw' => ?_) ?_; rotate_left; (· go_simp; rfl); (refine hK _ _ ?_; clear hK hA K))
    refine wpG_step' (fun K hA hK => ?_); go_simp; (refine bothG_value hA (v := ?_) (fun w' hw' => ?_) ?_; rotate_left; (· go_simp; rfl); (refine hK _ _ ?_; clear hK hA K))
    refine wpG_step' (fun K hA hK => ?_); go_simp; (refine bothG_value hA (v := ?_) (fun w' hw' => ?_) ?_; rotate_left; (· go_simp; rfl); (refine hK _ _ ?_; clear hK hA K))
    refine wpG_step' (fun K hA hK => ?_); go_simp; (refine bothG_value hA (v := ?_) (fun w' hw' => ?_) ?_; rotate_left; (· go_simp; rfl); (refine hK _ _ ?_; clear hK hA K))
    refine wpG_step' (fun K hA hK => ?_); go_simp; (refine bothG_call (o := ⟨some 58, _, _, _, _, _⟩) (f := 31) (args := ?_) (fun w' => ?_) (fun w' _ => ?_) ?_; rotate_left; (· go_simp; rfl); (· exact tx_31 _ _ _ _ w'); (intro u y58 hu; obtain ⟨a', b', c', d', x58, ha', rfl, l58, h58⟩ := hu.t31 rfl; cases ha'; refine hK _ _ ?_; clear hK hA K))
    refine wpG_step' (fun K hA hK => ?_); go_simp; (refine bothG_value hA (v := ?_) (fun w' hw' => ?_) ?_; rotate_left; (· go_simp; rfl); (refine hK _ _ ?_; clear hK hA K))
    refine wpG_step' (fun K hA hK => ?_); go_simp; (first | (refine bothG_float (o := ⟨some 60, _, _, _, _, _⟩) hA (x := ?_) (y := ?_) (X := ?_) (Y := ?_) rfl ?_ ?_ ?_ ?_ ?_ ?_; rotate_left 4; (· rfl); (· rfl); (· rfl); (· first | assumption | exact Is.refl _); (· first | assumption | exact Is.refl _); intro x60 h60 l60; refine hK _ _ ?_; clear hK hA K))
    refine wpG_step' (fun K hA hK => ?_); go_simp; (refine bothG_value hA (v := ?_) (fun w' hw' => ?_) ?_; rotate_left; (· go_simp; rfl); (refine hK _ _ ?_; clear hK hA K))
    refine wpG_step' (fun K hA hK => ?_); go_simp; (refine bothG_value hA (v := ?_) (fun w' hw' => ?_) ?_; rotate_left; (· go_simp; rfl); (refine hK _ _ ?_; clear hK hA K))
    refine wpG_step' (fun K hA hK => ?_); go_simp; (refine bothG_value hA (v := ?_) (fun w' hw' => ?_) ?_; rotate_left; (· go_simp; rfl); (refine hK _ _ ?_; clear hK hA K))
    refine wpG_step' (fun K hA hK => ?_); go_simp; (refine bothG_value hA (v := ?_) (fun w' hw' => ?_) ?_; rotate_left; (· go_simp; rfl); (refine hK _ _ ?_; clear hK hA K))
    refine wpG_step' (fun K hA hK => ?_); go_simp; (refine bothG_value hA (v := ?_) (fun w' hw' => ?_) ?_; rotate_left; (· go_simp; rfl); (refine hK _ _ ?_; clear hK hA K))
    refine wpG_step' (fun K hA hK => ?_); go_simp; (refine bothG_value hA (v := ?_) (fun w' hw' => ?_) ?_; rotate_left; (· go_simp; rfl); (refine hK _ _ ?_; clear hK hA K))
    refine wpG_step' (fun K hA hK => ?_); go_simp; (refine bothG_value hA (v := ?_) (fun w' hw' => ?_) ?_; rotate_left; (· go_simp; rfl); (refine hK _ _ ?_; clear hK hA K))
    refine wpG_step' (fun K hA hK => ?_); go_simp; (refine bothG_value hA (v := ?_) (fun w' hw' => ?_) ?_; rotate_left; (· go_simp; rfl); (refine hK _ _ ?_; clear hK hA K))
    refine wpG_step' (fun K hA hK => ?_); go_simp; (refine bothG_call (o := ⟨some 69, _, _, _, _, _⟩) (f := 31) (args := ?_) (fun w' => ?_) (fun w' _ => ?_) ?_; rotate_left; (· go_simp; rfl); (· exact tx_31 _ _ _ _ w'); (intro u y69 hu; obtain ⟨a', b', c', d', x69, ha', rfl, l69, h69⟩ := hu.t31 rfl; cases ha'; refine hK _ _ ?_; clear hK hA K))
    refine wpG_step' (fun K hA hK => ?_); go_simp; (refine bothG_value hA (v := ?_) (fun w' hw' => ?_) ?_; rotate_left; (· go_simp; rfl); (refine hK _ _ ?_; clear hK hA K))
    refine wpG_step' (fun K hA hK => ?_); go_simp; (first | (refine bothG_float (o := ⟨some 71, _, _, _, _, _⟩) hA (x := ?_) (y := ?_) (X := ?_) (Y := ?_) rfl ?_ ?_ ?_ ?_ ?_ ?_; rotate_left 4; (· rfl); (· rfl); (· rfl); (· first | assumption | exact Is.refl _); (· first | assumption | exact Is.refl _); intro x71 h71 l71; refine hK _ _ ?_; clear hK hA K))
    refine wpG_step' (fun K hA hK => ?_); go_simp; (refine bothG_value hA (v := ?_) (fun w' hw' => ?_) ?_; rotate_left; (· go_simp; rfl); (refine hK _ _ ?_; clear hK hA K))
    refine wpG_step' (fun K hA hK => ?_); go_simp; (refine bothG_value hA (v := ?_) (fun w' hw' => ?_) ?_; rotate_left; (· go_simp; rfl); (refine hK _ _ ?_; clear hK hA K))
    refine wpG_nil ?_
    intro w3 hb hF
    have G3 := Lib.hid (G2.out.keep hb)
    have bc := G3.out.bc
    have A00 := Lib.hid (show Is x60 (fdiv (crossF (fadd s.pxx (fmul dt s.pxv)) P.pvv (s.pxv) P.pxv) D) by rw [← crossF_is (m30) i4 ((Is.refl s.pxv)) i3]; exact h60)
    have A01 := Lib.hid (show Is x71 (fdiv (crossF (s.pxv) P.pxx (fadd s.pxx (fmul dt s.pxv)) P.pxv) D) by rw [← crossF_is ((Is.refl s.pxv)) i2 (m30) i3]; exact h71)
    have L00 := l60
    have L01 := l71
    clear hF hb h58 h60 h69 h71 l58 l60 l69 l71 a0 a1 c2 c3 c4 z1 z2 zz G2
  
    go_wp2_with (refine wpList_store_at rfl rfl (g := w.heap.size + 1 + 1 + 1 + 1) (j := 0) rfl rfl bc (by kernel_rfl) (Nat.le_of_ble_eq_true rfl) (one_fl2 _ _) ?_; intro w4 b4 o4; have G4 : Hid (GW w s p nx #[.float .f64 x60, .float .f64 x71, .float .f64 0, .float .f64 0] w4) := Lib.hid (G3.out.store b4 o4); clear b4 o4 bc G3)
    obtain ⟨c00, rfl⟩ : ∃ c, c = x60 := ⟨_, rfl⟩
    obtain ⟨c01, rfl⟩ : ∃ c, c = x71 := ⟨_, rfl⟩
    rw [rounds_succ]
    go_wp2_with fail
  
    refine wp_forget (fun w2 => GW w s p nx #[.float .f64 c00, .float .f64 c01, .float .f64 0, .float .f64 0] w2 ∧ w2.heap[w4.heap.size]? = some (.cells #[.float .f64 x40, .float .f64 s.pvv] 74 (0, 0))) ⟨G4.out.keep ((Below.refl _ _).alloc (Nat.le_refl _) _), Deep.blk_alloc_new _ _⟩ ?_
    rintro w5 ⟨g, bm⟩
    have G5 := Lib.hid g
    obtain ⟨a0, a1⟩ := two_cells bm
    have c2 := g.bp.at.c2
    have c3 := g.bp.at.c3
    have c4 := g.bp.at.c4
    rw [Nat.zero_add] at c2 c3 c4
    have z1 := g.bp.lt
    have z2 := new_lt bm
    have zz := G4.out.lt
    clear g bm G4
    refine wp_region_G_tail 25 TX (by kernel_rfl) (by kernel_rfl) ?_
    simp only [List.take, List.drop]
    refine wpG_step' (fun K hA hK => ?_); go_simp; (refine bothG_value hA (v := ?_) (fun w' hw' => ?_) ?_; rotate_left; (· go_simp; rfl); (refine hK _ _ ?_; clear hK hA K))
    refine wpG_step' (fun K hA hK => ?_); go_simp; (refine bothG_value hA (v := ?_) (fun w' hw' => ?_) ?_; rotate_left; (· go_simp; rfl); (refine hK _ _ ?_; clear hK hA K))
    refine wpG_step' (fun K hA hK => ?_); go_simp; (refine bothG_value hA (v := ?_) (fun w' hw' => ?_) ?_; rotate_left; (· go_simp; rfl); (refine hK _ _ ?_; clear hK hA K))
    refine wpG_step' (fun K hA hK => ?_); go_simp; (refine bothG_value hA (v := ?_) (fun w' hw' => ?_) ?_; rotate_left; (· go_simp; rfl); (refine hK _ _ ?_; clear hK hA K))
    refine wpG_step' (fun K hA hK => ?_); go_simp; (refine bothG_value hA (v := ?_) (fun w' hw' => ?_) ?_; rotate_left; (· go_simp; rfl); (refine hK _ _ ?_; clear hK hA K))
    refine wpG_step' (fun K hA hK => ?_); go_simp; (refine bothG_value hA (v := ?_) (fun w' hw' => ?_) ?_; rotate_left; (· go_simp; rfl); (refine hK _ _ ?_; clear hK hA K))
    refine wpG_step' (fun K hA hK => ?_); go_simp; (refine bothG_value hA (v := ?_) (fun w' hw' => ?_) ?_; rotate_left; (· go_simp; rfl); (refine hK _ _ ?_; clear hK hA K))
    refine wpG_step' (fun K hA hK => ?_); go_simp; (refine bothG_value hA (v := ?_) (fun w' hw' => ?_) ?_; rotate_left; (· go_simp; rfl); (refine hK _ _ ?_; clear hK hA K))
    refine wpG_step' (fun K hA hK => ?_); go_simp; (refine bothG_value hA (v := ?_) (fun w' hw' => ?_) ?_; rotate_left; (· go_simp; rfl); (refine hK _ _ ?_; clear hK hA K))
    refine wpG_step' (fun K hA hK => ?_); go_simp; (refine bothG_call (o := ⟨some 58, _, _, _, _, _⟩) (f := 31) (args := ?_) (fun w' => ?_) (fun w' _ => ?_) ?_; rotate_left; (· go_simp; rfl); (· exact tx_31 _ _ _ _ w'); (intro u y58 hu; obtain ⟨a', b', c', d', x58, ha', rfl, l58, h58⟩ := hu.t31 rfl; cases ha'; refine hK _ _ ?_; clear hK hA K))
    refine wpG_step' (fun K hA hK => ?_); go_simp; (refine bothG_value hA (v := ?_) (fun w' hw' => ?_) ?_; rotate_left; (· go_simp; rfl); (refine hK _ _ ?_; clear hK hA K))
    refine wpG_step' (fun K hA hK => ?_); go_simp; (first | (refine bothG_float (o := ⟨some 60, _, _, _, _, _⟩) hA (x := ?_) (y := ?_) (X := ?_) (Y := ?_) rfl ?_ ?_ ?_ ?_ ?_ ?_; rotate_left 4; (· rfl); (· rfl); (· rfl); (· first | assumption | exact Is.refl _); (· first | assumption | exact Is.refl _); intro x60 h60 l60; refine hK _ _ ?_; clear hK hA K))
    refine wpG_step' (fun K hA hK => ?_); go_simp; (refine bothG_value hA (v := ?_) (fun w' hw' => ?_) ?_; rotate_left; (· go_simp; rfl); (refine hK _ _ ?_; clear hK hA K))
    refine wpG_step' (fun K hA hK => ?_); go_simp; (refine bothG_value hA (v := ?_) (fun w' hw' => ?_) ?_; rotate_left; (· go_simp; rfl); (refine hK _ _ ?_; clear hK hA K))
    refine wpG_step' (fun K hA hK => ?_); go_simp; (refine bothG_value hA (v := ?_) (fun w' hw' => ?_) ?_; rotate_left; (· go_simp; rfl); (refine hK _ _ ?_; clear hK hA K))
    refine wpG_step' (fun K hA hK => ?_); go_simp; (refine bothG_value hA (v := ?_) (fun w' hw' => ?_) ?_; rotate_left; (· go_simp; rfl); (refine hK _ _ ?_; clear hK hA K))
    refine wpG_step' (fun K hA hK => ?_); go_simp; (refine bothG_value hA (v := ?_) (fun w' hw' => ?_) ?_; rotate_left; (· go_simp; rfl); (refine hK _ _ ?_; clear hK hA K))
    refine wpG_step' (fun K hA hK => ?_); go_simp; (refine bothG_value hA (v := ?_) (fun w' hw' => ?_) ?_; rotate_left; (· go_simp; rfl); (refine hK _ _ ?_; clear hK hA K))
    refine wpG_step' (fun K hA hK => ?_); go_simp; (refine bothG_value hA (v := ?_) (fun w' hw' => ?_) ?_; rotate_left; (· go_simp; rfl); (refine hK _ _ ?_; clear hK hA K))
    refine wpG_step' (fun K hA hK => ?_); go_simp; (refine bothG_value hA (v := ?_) (fun w' hw' => ?_) ?_; rotate_left; (· go_simp; rfl); (refine hK _ _ ?_; clear hK hA K))
    refine wpG_step' (fun K hA hK => ?_); go_simp; (refine bothG_call (o := ⟨some 69, _, _, _, _, _⟩) (f := 31) (args := ?_) (fun w' => ?_) (fun w' _ => ?_) ?_; rotate_left; (· go_simp; rfl); (· exact tx_31 _ _ _ _ w'); (intro u y69 hu; obtain ⟨a', b', c', d', x69, ha', rfl, l69, h69⟩ := hu.t31 rfl; cases ha'; refine hK _ _ ?_; clear hK hA K))
    refine wpG_step' (fun K hA hK => ?_); go_simp; (refine bothG_value hA (v := ?_) (fun w' hw' => ?_) ?_; rotate_left; (· go_simp; rfl); (refine hK _ _ ?_; clear hK hA K))
    refine wpG_step' (fun K hA hK => ?_); go_simp; (first | (refine bothG_float (o := ⟨some 71, _, _, _, _, _⟩) hA (x := ?_) (y := ?_) (X := ?_) (Y := ?_) rfl ?_ ?_ ?_ ?_ ?_ ?_; rotate_left 4; (· rfl); (· rfl); (· rfl); (· first | assumption | exact Is.refl _); (· first | assumption | exact Is.refl _); intro x71 h71 l71; refine hK _ _ ?_; clear hK hA K))
    refine wpG_step' (fun K hA hK => ?_); go_simp; (refine bothG_value hA (v := ?_) (fun w' hw' => ?_) ?_; rotate_left; (· go_simp; rfl); (refine hK _ _ ?_; clear hK hA K))
    refine wpG_step' (fun K hA hK => ?_); go_simp; (refine bothG_value hA (v := ?_) (fun w' hw' => ?_) ?_; rotate_left; (· go_simp; rfl); (refine hK _ _ ?_; clear hK hA K))
    refine wpG_nil ?_
    intro w6 hb hF
    have G6 := Lib.hid (G5.out.keep hb)
    have bc := G6.out.bc
    have A10 := Lib.hid (show Is x60 (fdiv (crossF (fadd s.pxv (fmul dt s.pvv)) P.pvv (s.pvv) P.pxv) D) by rw [← crossF_is (m40) i4 ((Is.refl s.pvv)) i3]; exact h60)
    have A11 := Lib.hid (show Is x71 (fdiv (crossF (s.pvv) P.pxx (fadd s.pxv (fmul dt s.pvv)) P.pxv) D) by rw [← crossF_is ((Is.refl s.pvv)) i2 (m40) i3]; exact h71)
    have L10 := l60
    have L11 := l71
    clear hF hb h58 h60 h69 h71 l58 l60 l69 l71 a0 a1 c2 c3 c4 z1 z2 zz G5
  
    go_wp2_with (refine wpList_store_at rfl rfl (g := w.heap.size + 1 + 1 + 1 + 1) (j := 2) rfl rfl bc (by kernel_rfl) (Nat.le_of_ble_eq_true rfl) (one_fl2 _ _) ?_; intro w7 b4 o4; have G7 : Hid (GW w s p nx #[.float .f64 c00, .float .f64 c01, .float .f64 x60, .float .f64 x71] w7) := Lib.hid (G6.out.store b4 o4); clear b4 o4 bc G6)
    obtain ⟨c10, rfl⟩ : ∃ c, c = x60 := ⟨_, rfl⟩
    obtain ⟨c11, rfl⟩ : ∃ c, c = x71 := ⟨_, rfl⟩
    rw [rounds_succ]
    go_wp2_with fail
    go_meet
    exact ⟨c00, c01, c10, c11, G7.out, A00.out, A01.out, A10.out, A11.out⟩
  case rest =>
    obtain ⟨wa, rfl⟩ : ∃ x, x = wc := ⟨_, rfl⟩
    obtain ⟨c00, c01, c10, c11, g7, a00, a01, a10, a11⟩ := hcut
    have G7 := Lib.hid g7
    have A00 := Lib.hid a00
    have A01 := Lib.hid a01
    have A10 := Lib.hid a10
    have A11 := Lib.hid a11
    clear g7 a00 a01 a10 a11
    clear m30 m40 G1
    obtain ⟨q0, q1, q2, q3⟩ := four_cells G7.out.bc
    obtain ⟨p0, p1, p2, p3, p4⟩ := G7.out.bp.cells
    obtain ⟨n0, n1, n2, n3, n4⟩ := G7.out.bn.cells
    go_wp2_with fail
    refine wp_region_drew TNo (by kernel_rfl) (by kernel_rfl) ?_
    repeat' (refine wpSet_step (fun K hK => ?_); go_simp; first | (first | (refine drew_float (o := ⟨some 79, _, _, _, _, _⟩) (x := ?_) (y := ?_) (X := ?_) (Y := ?_) rfl ?_ ?_ ?_ ?_ ?_ ?_; rotate_left 4; (· rfl); (· rfl); (· rfl); (· first | assumption | exact Is.refl _); (· first | assumption | exact Is.refl _); intro x79 h79 l79; refine hK _ ?_; clear hK K) | (refine drew_float (o := ⟨some 84, _, _, _, _, _⟩) (x := ?_) (y := ?_) (X := ?_) (Y := ?_) rfl ?_ ?_ ?_ ?_ ?_ ?_; rotate_left 4; (· rfl); (· rfl); (· rfl); (· first | assumption | exact Is.refl _); (· first | assumption | exact Is.refl _); intro x84 h84 l84; refine hK _ ?_; clear hK K)) | (refine drew_value (v := ?_) (fun n => ?_) ?_; rotate_left; (· go_simp; rfl); (refine hK _ ?_; clear hK K)))
    refine wpSet_nil ?_
    intro k1
    go_wp2_with fail
    refine wp_region_drew TNo (by kernel_rfl) (by kernel_rfl) ?_
    repeat' (refine wpSet_step (fun K hK => ?_); go_simp; first | (first | (refine drew_float (o := ⟨some 89, _, _, _, _, _⟩) (x := ?_) (y := ?_) (X := ?_) (Y := ?_) rfl ?_ ?_ ?_ ?_ ?_ ?_; rotate_left 4; (· rfl); (· rfl); (· rfl); (· first | assumption | exact Is.refl _); (· first | assumption | exact Is.refl _); intro x89 h89 l89; refine hK _ ?_; clear hK K) | (refine drew_float (o := ⟨some 94, _, _, _, _, _⟩) (x := ?_) (y := ?_) (X := ?_) (Y := ?_) rfl ?_ ?_ ?_ ?_ ?_ ?_; rotate_left 4; (· rfl); (· rfl); (· rfl); (· first | assumption | exact Is.refl _); (· first | assumption | exact Is.refl _); intro x94 h94 l94; refine hK _ ?_; clear hK K) | (refine drew_float (o := ⟨some 99, _, _, _, _, _⟩) (x := ?_) (y := ?_) (X := ?_) (Y := ?_) rfl ?_ ?_ ?_ ?_ ?_ ?_; rotate_left 4; (· rfl); (· rfl); (· rfl); (· first | assumption | exact Is.refl _); (· first | assumption | exact Is.refl _); intro x99 h99 l99; refine hK _ ?_; clear hK K)) | (refine drew_value (v := ?_) (fun n => ?_) ?_; rotate_left; (· go_simp; rfl); (refine hK _ ?_; clear hK K)))
    refine wpSet_nil ?_
    intro k2
    have z8 := G7.out.lt
    clear i0 i1 i2 i3 i4
    have E1 := Lib.hid (show Is x79 (fsub nx.x P.x) from h79)
    have E2 := Lib.hid (show Is x84 (fsub nx.v P.v) from h84)
    have E3 := Lib.hid (show Is x89 (fsub nx.pxx P.pxx) from h89)
    have E4 := Lib.hid (show Is x94 (fsub nx.pxv P.pxv) from h94)
    have E5 := Lib.hid (show Is x99 (fsub nx.pvv P.pvv) from h99)
    clear h79 h84 h89 h94 h99 l79 l84 l89 l94 l99
    go_upto_block 2 with fail
    refine wp_forget (GT w s p nx #[.float .f64 c00, .float .f64 c01, .float .f64 c10, .float .f64 c11] wa.heap.size #[.float .f64 0, .float .f64 0, .float .f64 0, .float .f64 0]) ⟨G7.out.keep (by (repeat' (first | exact Below.refl _ _ | refine below_drewN ?_ _ | refine Below.setCell ?_ (by first | exact Nat.le_refl _ | (simp; done) | (simp; omega)) _ | refine Below.alloc ?_ (by first | exact Nat.le_refl _ | (simp; done) | (simp; omega)) _))), (by rw [hpD]; exact Deep.blk_alloc_new _ _), z8⟩ ?_
    intro w9 g9
    have T9 := Lib.hid g9
    clear g9 q0 q1 q2 q3 z8 p0 p1 p2 p3 p4 n0 n1 n2 n3 n4 G7
    go_cut [] (fun wx => Mid2 w s p P nx dt D #[.float .f64 c00, .float .f64 c01, .float .f64 c10, .float .f64 c11] wa.heap.size wx)
    case first =>
      as_aux_lemma =>
      go_wp2_with fail
      refine wp_loop_rounds 3 ?_
      skip
      rw [rounds_succ]
      go_wp2_with fail
  
      refine wp_forget (fun w2 => GT w s p nx #[.float .f64 c00, .float .f64 c01, .float .f64 c10, .float .f64 c11] wa.heap.size #[.float .f64 0, .float .f64 0, .float .f64 0, .float .f64 0] w2 ∧ w2.heap[w9.heap.size]? = some (.cells #[.float .f64 c00, .float .f64 c01] 74 (0, 0))) ⟨T9.out.keep ((Below.refl _ _).alloc (Nat.le_refl _) _), Deep.blk_alloc_new _ _⟩ ?_
      rintro w10 ⟨g, bm⟩
      have T10 := Lib.hid g
      obtain ⟨a0, a1⟩ := two_cells bm
      have z2 := new_lt bm
      clear g bm T9
      refine wp_region_G_tail 17 TX (by kernel_rfl) (by kernel_rfl) ?_
      simp only [List.take, List.drop]
      refine wpG_step' (fun K hA hK => ?_); go_simp; (refine bothG_value hA (v := ?_) (fun w' hw' => ?_) ?_; rotate_left; (· go_simp; rfl); (refine hK _ _ ?_; clear hK hA K))
      refine wpG_step' (fun K hA hK => ?_); go_simp; (refine bothG_value hA (v := ?_) (fun w' hw' => ?_) ?_; rotate_left; (· go_simp; rfl); (refine hK _ _ ?_; clear hK hA K))
      refine wpG_step' (fun K hA hK => ?_); go_simp; (refine bothG_value hA (v := ?_) (fun w' hw' => ?_) ?_; rotate_left; (· go_simp; rfl); (refine hK _ _ ?_; clear hK hA K))
      refine wpG_step' (fun K hA hK => ?_); go_simp; (refine bothG_value hA (v := ?_) (fun w' hw' => ?_) ?_; rotate_left; (· go_simp; rfl); (refine hK _ _ ?_; clear hK hA K))
      refine wpG_step' (fun K hA hK => ?_); go_simp; (refine bothG_value hA (v := ?_) (fun w' hw' => ?_) ?_; rotate_left; (· go_simp; rfl); (refine hK _ _ ?_; clear hK hA K))
      refine wpG_step' (fun K hA hK => ?_); go_simp; (refine bothG_value hA (v := ?_) (fun w' hw' => ?_) ?_; rotate_left; (· go_simp; rfl); (refine hK _ _ ?_; clear hK hA K))
      refine wpG_step' (fun K hA hK => ?_); go_simp; (refine bothG_value hA (v := ?_) (fun w' hw' => ?_) ?_; rotate_left; (· go_simp; rfl); (refine hK _ _ ?_; clear hK hA K))
      refine wpG_step' (fun K hA hK => ?_); go_simp; (refine bothG_call (o := ⟨some 112, _, _, _, _, _⟩) (f := 52) (args := ?_) (fun w' => ?_) (fun w' _ => ?_) ?_; rotate_left; (· go_simp; rfl); (· exact tx_52 _ _ _ _ w'); (intro u y112 hu; obtain ⟨a', b', c', d', x112, ha', rfl, l112, h112⟩ := hu.t52 rfl; cases ha'; refine hK _ _ ?_; clear hK hA K))
      refine wpG_step' (fun K hA hK => ?_); go_simp; (refine bothG_value hA (v := ?_) (fun w' hw' => ?_) ?_; rotate_left; (· go_simp; rfl); (refine hK _ _ ?_; clear hK hA K))
      refine wpG_step' (fun K hA hK => ?_); go_simp; (refine bothG_value hA (v := ?_) (fun w' hw' => ?_) ?_; rotate_left; (· go_simp; rfl); (refine hK _ _ ?_; clear hK hA K))
      refine wpG_step' (fun K hA hK => ?_); go_simp; (refine bothG_value hA (v := ?_) (fun w' hw' => ?_) ?_; rotate_left; (· go_simp; rfl); (refine hK _ _ ?_; clear hK hA K))
      refine wpG_step' (fun K hA hK => ?_); go_simp; (refine bothG_value hA (v := ?_) (fun w' hw' => ?_) ?_; rotate_left; (· go_simp; rfl); (refine hK _ _ ?_; clear hK hA K))
      refine wpG_step' (fun K hA hK => ?_); go_simp; (refine bothG_value hA (v := ?_) (fun w' hw' => ?_) ?_; rotate_left; (· go_simp; rfl); (refine hK _ _ ?_; clear hK hA K))
      refine wpG_step' (fun K hA hK => ?_); go_simp; (refine bothG_value hA (v := ?_) (fun w' hw' => ?_) ?_; rotate_left; (· go_simp; rfl); (refine hK _ _ ?_; clear hK hA K))
      refine wpG_step' (fun K hA hK => ?_); go_simp; (refine bothG_call (o := ⟨some 119, _, _, _, _, _⟩) (f := 52) (args := ?_) (fun w' => ?_) (fun w' _ => ?_) ?_; rotate_left; (· go_simp; rfl); (· exact tx_52 _ _ _ _ w'); (intro u y119 hu; obtain ⟨a', b', c', d', x119, ha', rfl, l119, h119⟩ := hu.t52 rfl; cases ha'; refine hK _ _ ?_; clear hK hA K))
      refine wpG_step' (fun K hA hK => ?_); go_simp; (refine bothG_value hA (v := ?_) (fun w' hw' => ?_) ?_; rotate_left; (· go_simp; rfl); (refine hK _ _ ?_; clear hK hA K))
      refine wpG_step' (fun K hA hK => ?_); go_simp; (refine bothG_value hA (v := ?_) (fun w' hw' => ?_) ?_; rotate_left; (· go_simp; rfl); (refine hK _ _ ?_; clear hK hA K))
      refine wpG_nil ?_
      intro w11 hb hF
      have T11 := Lib.hid (T10.out.keep hb)
      have bc := T11.out.bt
      have B00 := Lib.hid (show Is x112 (pairF (gnF s P dt D).c00 (fsub nx.pxx P.pxx) (gnF s P dt D).c01 (fsub nx.pxv P.pxv)) by rw [← pairF_is A00.out E3.out A01.out E4.out]; exact h112)
      have B01 := Lib.hid (show Is x119 (pairF (gnF s P dt D).c00 (fsub nx.pxv P.pxv) (gnF s P dt D).c01 (fsub nx.pvv P.pvv)) by rw [← pairF_is A00.out E4.out A01.out E5.out]; exact h119)
      clear hF hb h112 h119 l112 l119 a0 a1 z2 T10
      go_wp2_with (refine wpList_store_at rfl rfl (g := wa.heap.size) (j := 0) rfl rfl bc (by kernel_rfl) (Nat.le_of_ble_eq_true rfl) (one_fl2 _ _) ?_; intro w12 b4 o4; have T12 : Hid (GT w s p nx #[.float .f64 c00, .float .f64 c01, .float .f64 c10, .float .f64 c11] wa.heap.size #[.float .f64 x112, .float .f64 x119, .float .f64 0, .float .f64 0] w12) := Lib.hid (T11.out.store b4 o4); clear b4 o4 bc T11)
      obtain ⟨t00, rfl⟩ : ∃ c, c = x112 := ⟨_, rfl⟩
      obtain ⟨t01, rfl⟩ : ∃ c, c = x119 := ⟨_, rfl⟩
  
      rw [rounds_succ]
      go_wp2_with fail
  
      refine wp_forget (fun w2 => GT w s p nx #[.float .f64 c00, .float .f64 c01, .float .f64 c10, .float .f64 c11] wa.heap.size #[.float .f64 t00, .float .f64 t01, .float .f64 0, .float .f64 0] w2 ∧ w2.heap[w12.heap.size]? = some (.cells #[.float .f64 c10, .float .f64 c11] 74 (0, 0))) ⟨T12.out.keep ((Below.refl _ _).alloc (Nat.le_refl _) _), Deep.blk_alloc_new _ _⟩ ?_
      rintro w13 ⟨g, bm⟩
      have T13 := Lib.hid g
      obtain ⟨a0, a1⟩ := two_cells bm
      have z2 := new_lt bm
      clear g bm T12
      refine wp_region_G_tail 17 TX (by kernel_rfl) (by kernel_rfl) ?_
      simp only [List.take, List.drop]
      refine wpG_step' (fun K hA hK => ?_); go_simp; (refine bothG_value hA (v := ?_) (fun w' hw' => ?_) ?_; rotate_left; (· go_simp; rfl); (refine hK _ _ ?_; clear hK hA K))
      refine wpG_step' (fun K hA hK => ?_); go_simp; (refine bothG_value hA (v := ?_) (fun w' hw' => ?_) ?_; rotate_left; (· go_simp; rfl); (refine hK _ _ ?_; clear hK hA K))
      refine wpG_step' (fun K hA hK => ?_); go_simp; (refine bothG_value hA (v := ?_) (fun w' hw' => ?_) ?_; rotate_left; (· go_simp; rfl); (refine hK _ _ ?_; clear hK hA K))
      refine wpG_step' (fun K hA hK => ?_); go_simp; (refine bothG_value hA (v := ?_) (fun w' hw' => ?_) ?_; rotate_left; (· go_simp; rfl); (refine hK _ _ ?_; clear hK hA K))
      refine wpG_step' (fun K hA hK => ?_); go_simp; (refine bothG_value hA (v := ?_) (fun w' hw' => ?_) ?_; rotate_left; (· go_simp; rfl); (refine hK _ _ ?_; clear hK hA K))
      refine wpG_step' (fun K hA hK => ?_); go_simp; (refine bothG_value hA (v := ?_) (fun w' hw' => ?_) ?_; rotate_left; (· go_simp; rfl); (refine hK _ _ ?_; clear hK hA K))
      refine wpG_step' (fun K hA hK => ?_); go_simp; (refine bothG_value hA (v := ?_) (fun w' hw' => ?_) ?_; rotate_left; (· go_simp; rfl); (refine hK _ _ ?_; clear hK hA K))
      refine wpG_step' (fun K hA hK => ?_); go_simp; (refine bothG_call (o := ⟨some 112, _, _, _, _, _⟩) (f := 52) (args := ?_) (fun w' => ?_) (fun w' _ => ?_) ?_; rotate_left; (· go_simp; rfl); (· exact tx_52 _ _ _ _ w'); (intro u y112 hu; obtain ⟨a', b', c', d', x112, ha', rfl, l112, h112⟩ := hu.t52 rfl; cases ha'; refine hK _ _ ?_; clear hK hA K))
      refine wpG_step' (fun K hA hK => ?_); go_simp; (refine bothG_value hA (v := ?_) (fun w' hw' => ?_) ?_; rotate_left; (· go_simp; rfl); (refine hK _ _ ?_; clear hK hA K))
      refine wpG_step' (fun K hA hK => ?_); go_simp; (refine bothG_value hA (v := ?_) (fun w' hw' => ?_) ?_; rotate_left; (· go_simp; rfl); (refine hK _ _ ?_; clear hK hA K))
      refine wpG_step' (fun K hA hK => ?_); go_simp; (refine bothG_value hA (v := ?_) (fun w' hw' => ?_) ?_; rotate_left; (· go_simp; rfl); (refine hK _ _ ?_; clear hK hA K))
      refine wpG_step' (fun K hA hK => ?_); go_simp; (refine bothG_value hA (v := ?_) (fun w' hw' => ?_) ?_; rotate_left; (· go_simp; rfl); (refine hK _ _ ?_; clear hK hA K))
      refine wpG_step' (fun K hA hK => ?_); go_simp; (refine bothG_value hA (v := ?_) (fun w' hw' => ?_) ?_; rotate_left; (· go_simp; rfl); (refine hK _ _ ?_; clear hK hA K))
      refine wpG_step' (fun K hA hK => ?_); go_simp; (refine bothG_value hA (v := ?_) (fun w' hw' => ?_) ?_; rotate_left; (· go_simp; rfl); (refine hK _ _ ?_; clear hK hA K))
      refine wpG_step' (fun K hA hK => ?_); go_simp; (refine bothG_call (o := ⟨some 119, _, _, _, _, _⟩) (f := 52) (args := ?_) (fun w' => ?_) (fun w' _ => ?_) ?_; rotate_left; (· go_simp; rfl); (· exact tx_52 _ _ _ _ w'); (intro u y119 hu; obtain ⟨a', b', c', d', x119, ha', rfl, l119, h119⟩ := hu.t52 rfl; cases ha'; refine hK _ _ ?_; clear hK hA K))
      refine wpG_step' (fun K hA hK => ?_); go_simp; (refine bothG_value hA (v := ?_) (fun w' hw' => ?_) ?_; rotate_left; (· go_simp; rfl); (refine hK _ _ ?_; clear hK hA K))
      refine wpG_step' (fun K hA hK => ?_); go_simp; (refine bothG_value hA (v := ?_) (fun w' hw' => ?_) ?_; rotate_left; (· go_simp; rfl); (refine hK _ _ ?_; clear hK hA K))
      refine wpG_nil ?_
      intro w14 hb hF
      have T14 := Lib.hid (T13.out.keep hb)
      have bc := T14.out.bt
      have B10 := Lib.hid (show Is x112 (pairF (gnF s P dt D).c10 (fsub nx.pxx P.pxx) (gnF s P dt D).c11 (fsub nx.pxv P.pxv)) by rw [← pairF_is A10.out E3.out A11.out E4.out]; exact h112)
      have B11 := Lib.hid (show Is x119 (pairF (gnF s P dt D).c10 (fsub nx.pxv P.pxv) (gnF s P dt D).c11 (fsub nx.pvv P.pvv)) by rw [← pairF_is A10.out E4.out A11.out E5.out]; exact h119)
      clear hF hb h112 h119 l112 l119 a0 a1 z2 T13
      go_wp2_with (refine wpList_store_at rfl rfl (g := wa.heap.size) (j := 2) rfl rfl bc (by kernel_rfl) (Nat.le_of_ble_eq_true rfl) (one_fl2 _ _) ?_; intro w15 b4 o4; have T15 : Hid (GT w s p nx #[.float .f64 c00, .float .f64 c01, .float .f64 c10, .float .f64 c11] wa.heap.size #[.float .f64 t00, .float .f64 t01, .float .f64 x112, .float .f64 x119] w15) := Lib.hid (T14.out.store b4 o4); clear b4 o4 bc T14)
      obtain ⟨t10, rfl⟩ : ∃ c, c = x112 := ⟨_, rfl⟩
      obtain ⟨t11, rfl⟩ : ∃ c, c = x119 := ⟨_, rfl⟩
  
      rw [rounds_succ]
      go_wp2_with fail
      go_meet
      exact ⟨t00, t01, t10, t11, T15.out, B00.out, B01.out, B10.out, B11.out⟩
    case rest =>
      obtain ⟨w15, rfl⟩ : ∃ x, x = wc := ⟨_, rfl⟩
      obtain ⟨t00, t01, t10, t11, g15, b00, b01, b10, b11⟩ := hcut
      have T15 := Lib.hid g15
      have B00 := Lib.hid b00
      have B01 := Lib.hid b01
      have B10 := Lib.hid b10
      have B11 := Lib.hid b11
      clear g15 b00 b01 b10 b11 T9
      obtain ⟨s0, s1, s2, s3, s4⟩ := T15.out.g.bs.cells
      obtain ⟨q0, q1, q2, q3⟩ := four_cells T15.out.g.bc
      obtain ⟨r0, r1, r2, r3⟩ := four_cells T15.out.bt
      have z1 := T15.out.g.bs.lt
      have z2 := T15.out.g.lt
      have z3 := (Array.getElem?_eq_some_iff.1 T15.out.bt).1
      go_upto_region 15 with fail

      go_cut [23] (fun s23 wx => ∃ g : Nat, s23 = .pointer (some ⟨g, 0, none⟩) ∧ Mid3 w s p P nx dt D #[.float .f64 c00, .float .f64 c01, .float .f64 c10, .float .f64 c11] wa.heap.size #[.float .f64 t00, .float .f64 t01, .float .f64 t10, .float .f64 t11] g wx)
      case first =>
        as_aux_lemma =>
        refine wp_region_G_tail 74 TX (by kernel_rfl) (by kernel_rfl) ?_
        simp only [List.append, List.take, List.drop]
  
        refine wpG_step' (fun K hA hK => ?_); go_simp; (refine bothG_value hA (v := ?_) (fun w' hw' => ?_) ?_; rotate_left; (· go_simp; rfl); (refine hK _ _ ?_; clear hK hA K))
        refine wpG_step' (fun K hA hK => ?_); go_simp; (refine bothG_value hA (v := ?_) (fun w' hw' => ?_) ?_; rotate_left; (· go_simp; rfl); (refine hK _ _ ?_; clear hK hA K))
        refine wpG_step' (fun K hA hK => ?_); go_simp; (refine bothG_value hA (v := ?_) (fun w' hw' => ?_) ?_; rotate_left; (· go_simp; rfl); (refine hK _ _ ?_; clear hK hA K))
        refine wpG_step' (fun K hA hK => ?_); go_simp; (refine bothG_value hA (v := ?_) (fun w' hw' => ?_) ?_; rotate_left; (· go_simp; rfl); (refine hK _ _ ?_; clear hK hA K))
        refine wpG_step' (fun K hA hK => ?_); go_simp; (refine bothG_value hA (v := ?_) (fun w' hw' => ?_) ?_; rotate_left; (· go_simp; rfl); (refine hK _ _ ?_; clear hK hA K))
        refine wpG_step' (fun K hA hK => ?_); go_simp; (refine bothG_value hA (v := ?_) (fun w' hw' => ?_) ?_; rotate_left; (· go_simp; rfl); (refine hK _ _ ?_; clear hK hA K))
        refine wpG_step' (fun K hA hK => ?_); go_simp; (refine bothG_value hA (v := ?_) (fun w' hw' => ?_) ?_; rotate_left; (· go_simp; rfl); (refine hK _ _ ?_; clear hK hA K))
        refine wpG_step' (fun K hA hK => ?_); go_simp; (refine bothG_value hA (v := ?_) (fun w' hw' => ?_) ?_; rotate_left; (· go_simp; rfl); (refine hK _ _ ?_; clear hK hA K))
        refine wpG_step' (fun K hA hK => ?_); go_simp; (refine bothG_value hA (v := ?_) (fun w' hw' => ?_) ?_; rotate_left; (· go_simp; rfl); (refine hK _ _ ?_; clear hK hA K))
        refine wpG_step' (fun K hA hK => ?_); go_simp; (refine bothG_value hA (v := ?_) (fun w' hw' => ?_) ?_; rotate_left; (· go_simp; rfl); (refine hK _ _ ?_; clear hK hA K))
        refine wpG_step' (fun K hA hK => ?_); go_simp; (refine bothG_call (o := ⟨some 133, _, _, _, _, _⟩) (f := 52) (args := ?_) (fun w' => ?_) (fun w' _ => ?_) ?_; rotate_left; (· go_simp; rfl); (· exact tx_52 _ _ _ _ w'); (intro u y133 hu; obtain ⟨a', b', c', d', x133, ha', rfl, l133, h133⟩ := hu.t52 rfl; cases ha'; refine hK _ _ ?_; clear hK hA K))
        refine wpG_step' (fun K hA hK => ?_); go_simp; (first | (refine bothG_float (o := ⟨some 134, _, _, _, _, _⟩) hA (x := ?_) (y := ?_) (X := ?_) (Y := ?_) rfl ?_ ?_ ?_ ?_ ?_ ?_; rotate_left 4; (· rfl); (· rfl); (· rfl); (· first | assumption | exact Is.refl _); (· first | assumption | exact Is.refl _); intro x134 h134 l134; refine hK _ _ ?_; clear hK hA K))
        refine wpG_step' (fun K hA hK => ?_); go_simp; (refine bothG_value hA (v := ?_) (fun w' hw' => ?_) ?_; rotate_left; (· go_simp; rfl); (refine hK _ _ ?_; clear hK hA K))
        refine wpG_step' (fun K hA hK => ?_); go_simp; (refine bothG_value hA (v := ?_) (fun w' hw' => ?_) ?_; rotate_left; (· go_simp; rfl); (refine hK _ _ ?_; clear hK hA K))
        refine wpG_step' (fun K hA hK => ?_); go_simp; (refine bothG_value hA (v := ?_) (fun w' hw' => ?_) ?_; rotate_left; (· go_simp; rfl); (refine hK _ _ ?_; clear hK hA K))
        refine wpG_step' (fun K hA hK => ?_); go_simp; (refine bothG_value hA (v := ?_) (fun w' hw' => ?_) ?_; rotate_left; (· go_simp; rfl); (refine hK _ _ ?_; clear hK hA K))
        refine wpG_step' (fun K hA hK => ?_); go_simp; (refine bothG_value hA (v := ?_) (fun w' hw' => ?_) ?_; rotate_left; (· go_simp; rfl); (refine hK _ _ ?_; clear hK hA K))
        refine wpG_step' (fun K hA hK => ?_); go_simp; (refine bothG_value hA (v := ?_) (fun w' hw' => ?_) ?_; rotate_left; (· go_simp; rfl); (refine hK _ _ ?_; clear hK hA K))
        refine wpG_step' (fun K hA hK => ?_); go_simp; (refine bothG_value hA (v := ?_) (fun w' hw' => ?_) ?_; rotate_left; (· go_simp; rfl); (refine hK _ _ ?_; clear hK hA K))
        refine wpG_step' (fun K hA hK => ?_); go_simp; (refine bothG_value hA (v := ?_) (fun w' hw' => ?_) ?_; rotate_left; (· go_simp; rfl); (refine hK _ _ ?_; clear hK hA K))
        refine wpG_step' (fun K hA hK => ?_); go_simp; (refine bothG_value hA (v := ?_) (fun w' hw' => ?_) ?_; rotate_left; (· go_simp; rfl); (refine hK _ _ ?_; clear hK hA K))
        refine wpG_step' (fun K hA hK => ?_); go_simp; (refine bothG_value hA (v := ?_) (fun w' hw' => ?_) ?_; rotate_left; (· go_simp; rfl); (refine hK _ _ ?_; clear hK hA K))
        refine wpG_step' (fun K hA hK => ?_); go_simp; (refine bothG_call (o := ⟨some 145, _, _, _, _, _⟩) (f := 52) (args := ?_) (fun w' => ?_) (fun w' _ => ?_) ?_; rotate_left; (· go_simp; rfl); (· exact tx_52 _ _ _ _ w'); (intro u y145 hu; obtain ⟨a', b', c', d', x145, ha', rfl, l145, h145⟩ := hu.t52 rfl; cases ha'; refine hK _ _ ?_; clear hK hA K))
        refine wpG_step' (fun K hA hK => ?_); go_simp; (first | (refine bothG_float (o := ⟨some 146, _, _, _, _, _⟩) hA (x := ?_) (y := ?_) (X := ?_) (Y := ?_) rfl ?_ ?_ ?_ ?_ ?_ ?_; rotate_left 4; (· rfl); (· rfl); (· rfl); (· first | assumption | exact Is.refl _); (· first | assumption | exact Is.refl _); intro x146 h146 l146; refine hK _ _ ?_; clear hK hA K))
        refine wpG_step' (fun K hA hK => ?_); go_simp; (refine bothG_value hA (v := ?_) (fun w' hw' => ?_) ?_; rotate_left; (· go_simp; rfl); (refine hK _ _ ?_; clear hK hA K))
        refine wpG_step' (fun K hA hK => ?_); go_simp; (refine bothG_value hA (v := ?_) (fun w' hw' => ?_) ?_; rotate_left; (· go_simp; rfl); (refine hK _ _ ?_; clear hK hA K))
        refine wpG_step' (fun K hA hK => ?_); go_simp; (refine bothG_value hA (v := ?_) (fun w' hw' => ?_) ?_; rotate_left; (· go_simp; rfl); (refine hK _ _ ?_; clear hK hA K))
        refine wpG_step' (fun K hA hK => ?_); go_simp; (refine bothG_value hA (v := ?_) (fun w' hw' => ?_) ?_; rotate_left; (· go_simp; rfl); (refine hK _ _ ?_; clear hK hA K))
        refine wpG_step' (fun K hA hK => ?_); go_simp; (refine bothG_value hA (v := ?_) (fun w' hw' => ?_) ?_; rotate_left; (· go_simp; rfl); (refine hK _ _ ?_; clear hK hA K))
        refine wpG_step' (fun K hA hK => ?_); go_simp; (refine bothG_value hA (v := ?_) (fun w' hw' => ?_) ?_; rotate_left; (· go_simp; rfl); (refine hK _ _ ?_; clear hK hA K))
        refine wpG_step' (fun K hA hK => ?_); go_simp; (refine bothG_value hA (v := ?_) (fun w' hw' => ?_) ?_; rotate_left; (· go_simp; rfl); (refine hK _ _ ?_; clear hK hA K))
        refine wpG_step' (fun K hA hK => ?_); go_simp; (refine bothG_value hA (v := ?_) (fun w' hw' => ?_) ?_; rotate_left; (· go_simp; rfl); (refine hK _ _ ?_; clear hK hA K))
        refine wpG_step' (fun K hA hK => ?_); go_simp; (refine bothG_value hA (v := ?_) (fun w' hw' => ?_) ?_; rotate_left; (· go_simp; rfl); (refine hK _ _ ?_; clear hK hA K))
        refine wpG_step' (fun K hA hK => ?_); go_simp; (refine bothG_value hA (v := ?_) (fun w' hw' => ?_) ?_; rotate_left; (· go_simp; rfl); (refine hK _ _ ?_; clear hK hA K))
        refine wpG_step' (fun K hA hK => ?_); go_simp; (refine bothG_value hA (v := ?_) (fun w' hw' => ?_) ?_; rotate_left; (· go_simp; rfl); (refine hK _ _ ?_; clear hK hA K))
        refine wpG_step' (fun K hA hK => ?_); go_simp; (refine bothG_value hA (v := ?_) (fun w' hw' => ?_) ?_; rotate_left; (· go_simp; rfl); (refine hK _ _ ?_; clear hK hA K))
        refine wpG_step' (fun K hA hK => ?_); go_simp; (refine bothG_value hA (v := ?_) (fun w' hw' => ?_) ?_; rotate_left; (· go_simp; rfl); (refine hK _ _ ?_; clear hK hA K))
        refine wpG_step' (fun K hA hK => ?_); go_simp; (refine bothG_value hA (v := ?_) (fun w' hw' => ?_) ?_; rotate_left; (· go_simp; rfl); (refine hK _ _ ?_; clear hK hA K))
        refine wpG_step' (fun K hA hK => ?_); go_simp; (refine bothG_call (o := ⟨some 161, _, _, _, _, _⟩) (f := 52) (args := ?_) (fun w' => ?_) (fun w' _ => ?_) ?_; rotate_left; (· go_simp; rfl); (· exact tx_52 _ _ _ _ w'); (intro u y161 hu; obtain ⟨a', b', c', d', x161, ha', rfl, l161, h161⟩ := hu.t52 rfl; cases ha'; refine hK _ _ ?_; clear hK hA K))
        refine wpG_step' (fun K hA hK => ?_); go_simp; (first | (refine bothG_float (o := ⟨some 162, _, _, _, _, _⟩) hA (x := ?_) (y := ?_) (X := ?_) (Y := ?_) rfl ?_ ?_ ?_ ?_ ?_ ?_; rotate_left 4; (· rfl); (· rfl); (· rfl); (· first | assumption | exact Is.refl _); (· first | assumption | exact Is.refl _); intro x162 h162 l162; refine hK _ _ ?_; clear hK hA K))
        refine wpG_step' (fun K hA hK => ?_); go_simp; (refine bothG_value hA (v := ?_) (fun w' hw' => ?_) ?_; rotate_left; (· go_simp; rfl); (refine hK _ _ ?_; clear hK hA K))
        refine wpG_step' (fun K hA hK => ?_); go_simp; (refine bothG_value hA (v := ?_) (fun w' hw' => ?_) ?_; rotate_left; (· go_simp; rfl); (refine hK _ _ ?_; clear hK hA K))
        refine wpG_step' (fun K hA hK => ?_); go_simp; (refine bothG_value hA (v := ?_) (fun w' hw' => ?_) ?_; rotate_left; (· go_simp; rfl); (refine hK _ _ ?_; clear hK hA K))
        refine wpG_step' (fun K hA hK => ?_); go_simp; (refine bothG_value hA (v := ?_) (fun w' hw' => ?_) ?_; rotate_left; (· go_simp; rfl); (refine hK _ _ ?_; clear hK hA K))
        refine wpG_step' (fun K hA hK => ?_); go_simp; (refine bothG_value hA (v := ?_) (fun w' hw' => ?_) ?_; rotate_left; (· go_simp; rfl); (refine hK _ _ ?_; clear hK hA K))
        refine wpG_step' (fun K hA hK => ?_); go_simp; (refine bothG_value hA (v := ?_) (fun w' hw' => ?_) ?_; rotate_left; (· go_simp; rfl); (refine hK _ _ ?_; clear hK hA K))
        refine wpG_step' (fun K hA hK => ?_); go_simp; (refine bothG_value hA (v := ?_) (fun w' hw' => ?_) ?_; rotate_left; (· go_simp; rfl); (refine hK _ _ ?_; clear hK hA K))
        refine wpG_step' (fun K hA hK => ?_); go_simp; (refine bothG_value hA (v := ?_) (fun w' hw' => ?_) ?_; rotate_left; (· go_simp; rfl); (refine hK _ _ ?_; clear hK hA K))
        refine wpG_step' (fun K hA hK => ?_); go_simp; (refine bothG_value hA (v := ?_) (fun w' hw' => ?_) ?_; rotate_left; (· go_simp; rfl); (refine hK _ _ ?_; clear hK hA K))
        refine wpG_step' (fun K hA hK => ?_); go_simp; (refine bothG_value hA (v := ?_) (fun w' hw' => ?_) ?_; rotate_left; (· go_simp; rfl); (refine hK _ _ ?_; clear hK hA K))
        refine wpG_step' (fun K hA hK => ?_); go_simp; (refine bothG_value hA (v := ?_) (fun w' hw' => ?_) ?_; rotate_left; (· go_simp; rfl); (refine hK _ _ ?_; clear hK hA K))
        refine wpG_step' (fun K hA hK => ?_); go_simp; (refine bothG_value hA (v := ?_) (fun w' hw' => ?_) ?_; rotate_left; (· go_simp; rfl); (refine hK _ _ ?_; clear hK hA K))
        refine wpG_step' (fun K hA hK => ?_); go_simp; (refine bothG_value hA (v := ?_) (fun w' hw' => ?_) ?_; rotate_left; (· go_simp; rfl); (refine hK _ _ ?_; clear hK hA K))
        refine wpG_step' (fun K hA hK => ?_); go_simp; (refine bothG_value hA (v := ?_) (fun w' hw' => ?_) ?_; rotate_left; (· go_simp; rfl); (refine hK _ _ ?_; clear hK hA K))
        refine wpG_step' (fun K hA hK => ?_); go_simp; (refine bothG_call (o := ⟨some 177, _, _, _, _, _⟩) (f := 52) (args := ?_) (fun w' => ?_) (fun w' _ => ?_) ?_; rotate_left; (· go_simp; rfl); (· exact tx_52 _ _ _ _ w'); (intro u y177 hu; obtain ⟨a', b', c', d', x177, ha', rfl, l177, h177⟩ := hu.t52 rfl; cases ha'; refine hK _ _ ?_; clear hK hA K))
        refine wpG_step' (fun K hA hK => ?_); go_simp; (first | (refine bothG_float (o := ⟨some 178, _, _, _, _, _⟩) hA (x := ?_) (y := ?_) (X := ?_) (Y := ?_) rfl ?_ ?_ ?_ ?_ ?_ ?_; rotate_left 4; (· rfl); (· rfl); (· rfl); (· first | assumption | exact Is.refl _); (· first | assumption | exact Is.refl _); intro x178 h178 l178; refine hK _ _ ?_; clear hK hA K))
        refine wpG_step' (fun K hA hK => ?_); go_simp; (refine bothG_value hA (v := ?_) (fun w' hw' => ?_) ?_; rotate_left; (· go_simp; rfl); (refine hK _ _ ?_; clear hK hA K))
        refine wpG_step' (fun K hA hK => ?_); go_simp; (refine bothG_value hA (v := ?_) (fun w' hw' => ?_) ?_; rotate_left; (· go_simp; rfl); (refine hK _ _ ?_; clear hK hA K))
        refine wpG_step' (fun K hA hK => ?_); go_simp; (refine bothG_value hA (v := ?_) (fun w' hw' => ?_) ?_; rotate_left; (· go_simp; rfl); (refine hK _ _ ?_; clear hK hA K))
        refine wpG_step' (fun K hA hK => ?_); go_simp; (refine bothG_value hA (v := ?_) (fun w' hw' => ?_) ?_; rotate_left; (· go_simp; rfl); (refine hK _ _ ?_; clear hK hA K))
        refine wpG_step' (fun K hA hK => ?_); go_simp; (refine bothG_value hA (v := ?_) (fun w' hw' => ?_) ?_; rotate_left; (· go_simp; rfl); (refine hK _ _ ?_; clear hK hA K))
        refine wpG_step' (fun K hA hK => ?_); go_simp; (refine bothG_value hA (v := ?_) (fun w' hw' => ?_) ?_; rotate_left; (· go_simp; rfl); (refine hK _ _ ?_; clear hK hA K))
        refine wpG_step' (fun K hA hK => ?_); go_simp; (refine bothG_value hA (v := ?_) (fun w' hw' => ?_) ?_; rotate_left; (· go_simp; rfl); (refine hK _ _ ?_; clear hK hA K))
        refine wpG_step' (fun K hA hK => ?_); go_simp; (refine bothG_value hA (v := ?_) (fun w' hw' => ?_) ?_; rotate_left; (· go_simp; rfl); (refine hK _ _ ?_; clear hK hA K))
        refine wpG_step' (fun K hA hK => ?_); go_simp; (refine bothG_value hA (v := ?_) (fun w' hw' => ?_) ?_; rotate_left; (· go_simp; rfl); (refine hK _ _ ?_; clear hK hA K))
        refine wpG_step' (fun K hA hK => ?_); go_simp; (refine bothG_value hA (v := ?_) (fun w' hw' => ?_) ?_; rotate_left; (· go_simp; rfl); (refine hK _ _ ?_; clear hK hA K))
        refine wpG_step' (fun K hA hK => ?_); go_simp; (refine bothG_value hA (v := ?_) (fun w' hw' => ?_) ?_; rotate_left; (· go_simp; rfl); (refine hK _ _ ?_; clear hK hA K))
        refine wpG_step' (fun K hA hK => ?_); go_simp; (refine bothG_value hA (v := ?_) (fun w' hw' => ?_) ?_; rotate_left; (· go_simp; rfl); (refine hK _ _ ?_; clear hK hA K))
        refine wpG_step' (fun K hA hK => ?_); go_simp; (refine bothG_value hA (v := ?_) (fun w' hw' => ?_) ?_; rotate_left; (· go_simp; rfl); (refine hK _ _ ?_; clear hK hA K))
        refine wpG_step' (fun K hA hK => ?_); go_simp; (refine bothG_value hA (v := ?_) (fun w' hw' => ?_) ?_; rotate_left; (· go_simp; rfl); (refine hK _ _ ?_; clear hK hA K))
        refine wpG_step' (fun K hA hK => ?_); go_simp; (refine bothG_call (o := ⟨some 193, _, _, _, _, _⟩) (f := 52) (args := ?_) (fun w' => ?_) (fun w' _ => ?_) ?_; rotate_left; (· go_simp; rfl); (· exact tx_52 _ _ _ _ w'); (intro u y193 hu; obtain ⟨a', b', c', d', x193, ha', rfl, l193, h193⟩ := hu.t52 rfl; cases ha'; refine hK _ _ ?_; clear hK hA K))
        refine wpG_step' (fun K hA hK => ?_); go_simp; (first | (refine bothG_float (o := ⟨some 194, _, _, _, _, _⟩) hA (x := ?_) (y := ?_) (X := ?_) (Y := ?_) rfl ?_ ?_ ?_ ?_ ?_ ?_; rotate_left 4; (· rfl); (· rfl); (· rfl); (· first | assumption | exact Is.refl _); (· first | assumption | exact Is.refl _); intro x194 h194 l194; refine hK _ _ ?_; clear hK hA K))
        refine wpG_step' (fun K hA hK => ?_); go_simp; (refine bothG_value hA (v := ?_) (fun w' hw' => ?_) ?_; rotate_left; (· go_simp; rfl); (refine hK _ _ ?_; clear hK hA K))
        refine wpG_step' (fun K hA hK => ?_); go_simp; (refine bothG_alloc (ob := ?_) (fun w' => ?_) ?_; rotate_left; (· go_simp; rfl); (intro g23 xg hn1 hn2 hn3; refine hK _ _ ?_; clear hK hA K))
        refine wpG_nil ?_
        intro w16 hb hF
        have T16 := Lib.hid (T15.out.keep hb)
        have bn := (hF.2.block g23 hn2).trans hn3
        have zg : wa.heap.size < g23 := Nat.lt_of_lt_of_le z3 hn1
        have I134 := Lib.hid (show Is x134 (fadd s.x (pairF (gnF s P dt D).c00 (fsub nx.x P.x) (gnF s P dt D).c01 (fsub nx.v P.v))) by rw [← pairF_is A00.out E1.out A01.out E2.out]; exact h134)
        have I146 := Lib.hid (show Is x146 (fadd s.v (pairF (gnF s P dt D).c10 (fsub nx.x P.x) (gnF s P dt D).c11 (fsub nx.v P.v))) by rw [← pairF_is A10.out E1.out A11.out E2.out]; exact h146)
        have I162 := Lib.hid (show Is x162 (gain0F s P nx (gnF s P dt D)).pxx by unfold gain0F; simp only; rw [← pairF_is B00.out A00.out B01.out A01.out]; exact h162)
        have I178 := Lib.hid (show Is x178 (gain0F s P nx (gnF s P dt D)).pxv by unfold gain0F; simp only; rw [← pairF_is B00.out A10.out B01.out A11.out]; exact h178)
        have I194 := Lib.hid (show Is x194 (gain0F s P nx (gnF s P dt D)).pvv by unfold gain0F; simp only; rw [← pairF_is B10.out A10.out B11.out A11.out]; exact h194)
        have LL := Lib.hid (show St.Lt ⟨x134, x146, x162, x178, x194⟩ from ⟨l134, l146, l162, l178, l194⟩)
        clear hb hF hn1 hn2 hn3 h133 h134 h145 h146 h161 h162 h177 h178 h193 h194 l133 l134 l145 l146 l161 l162 l177 l178 l193 l194 s0 s1 s2 s3 s4 q0 q1 q2 q3 r0 r1 r2 r3 z1 z2 z3 T15
        refine wpList_store_at rfl rfl (g := g23) (j := 0) rfl rfl bn (by kernel_rfl) (Nat.le_of_ble_eq_true rfl) (one_fl5 _ _ _ _ _) ?_
        intro w17 b5 ob5
        have b6 : Bs w17 g23 ⟨x134, x146, x162, x178, x194⟩ := b5
        have T17 := T16.out.only ob5 zg
        clear b5 ob5 bn T16
        go_wp2_with fail
        go_meet
        exact ⟨g23, rfl, _, T17, b6, ⟨I134.out, I146.out, I162.out, I178.out, I194.out⟩, LL.out, zg⟩
      case rest =>
        obtain ⟨w17, rfl⟩ : ∃ x, x = wc := ⟨_, rfl⟩
        obtain ⟨g23, rfl, o, t17, bo, io, lo, zo⟩ := hcut
        have T17 := Lib.hid t17
        have BO := Lib.hid bo
        have IO := Lib.hid io
        have LO := Lib.hid lo
        obtain ⟨p0, p1, p2, p3, p4⟩ := bo.cells
        have f2 := bo.frozen 2
        have z1 := bo.lt
        clear t17 bo io lo T15 A00 A01 A10 A11 B00 B01 B10 B11 E1 E2 E3 E4 E5 s0 s1 s2 s3 s4 q0 q1 q2 q3 r0 r1 r2 r3
        go_upto_if 198 with fail
        go_cut [] (fun wx => Mid4 w s p P nx dt D #[.float .f64 c00, .float .f64 c01, .float .f64 c10, .float .f64 c11] wa.heap.size #[.float .f64 t00, .float .f64 t01, .float .f64 t10, .float .f64 t11] g23 wx)
        case first =>
          as_aux_lemma =>
          go_wp2_with fail
          · have hq : clt (gain0F s P nx (gnF s P dt D)).pxx 0 = true := ((clt_is IO.out.pxx (Is.refl 0)).symm.trans ‹(FloatKind.f64.format.order o.pxx 0 == some Ordering.lt) = true›)
            go_meet
            exact ⟨{ o with pxx := 0 }, T17.out.only (only_set _ _ _ _) zo, BO.out.set2 0, ⟨IO.out.x, IO.out.v, by simp only; unfold nnF; rw [if_pos hq]; exact Is.refl _, IO.out.pxv, IO.out.pvv⟩, ⟨LO.out.x, LO.out.v, Nat.two_pow_pos 64, LO.out.pxv, LO.out.pvv⟩⟩
          · have hq : clt (gain0F s P nx (gnF s P dt D)).pxx 0 = false := ((clt_is IO.out.pxx (Is.refl 0)).symm.trans ‹(FloatKind.f64.format.order o.pxx 0 == some Ordering.lt) = false›)
            go_meet
            exact ⟨o, T17.out, BO.out, ⟨IO.out.x, IO.out.v, by simp only; unfold nnF; rw [if_neg (by rw [hq]; exact Bool.false_ne_true)]; exact IO.out.pxx, IO.out.pxv, IO.out.pvv⟩, LO.out⟩
        case rest =>
          obtain ⟨w18, rfl⟩ : ∃ x, x = wc := ⟨_, rfl⟩
          obtain ⟨o4, t17, bo, io, lo⟩ := hcut
          clear T17 BO IO LO p0 p1 p2 p3 p4 f2 z1
          have T17 := Lib.hid t17
          have BO := Lib.hid bo
          have IO := Lib.hid io
          have LO := Lib.hid lo
          obtain ⟨p0, p1, p2, p3, p4⟩ := bo.cells
          have f2 := bo.frozen 4
          have z1 := bo.lt
          clear t17 bo io lo
          go_upto_if 202 with fail
          go_cut [] (fun wx => Mid5 w s p P nx dt D #[.float .f64 c00, .float .f64 c01, .float .f64 c10, .float .f64 c11] wa.heap.size #[.float .f64 t00, .float .f64 t01, .float .f64 t10, .float .f64 t11] g23 wx)
          case first =>
            as_aux_lemma =>
            go_wp2_with fail
            · have hq : clt (gain0F s P nx (gnF s P dt D)).pvv 0 = true := ((clt_is IO.out.pvv (Is.refl 0)).symm.trans ‹(FloatKind.f64.format.order o4.pvv 0 == some Ordering.lt) = true›)
              go_meet
              exact ⟨{ o4 with pvv := 0 }, T17.out.only (only_set _ _ _ _) zo, BO.out.set4 0, ⟨IO.out.x, IO.out.v, IO.out.pxx, IO.out.pxv, by simp only [gainF, nnS]; unfold nnF; rw [if_pos hq]; exact Is.refl _⟩, ⟨LO.out.x, LO.out.v, LO.out.pxx, LO.out.pxv, Nat.two_pow_pos 64⟩⟩
            · have hq : clt (gain0F s P nx (gnF s P dt D)).pvv 0 = false := ((clt_is IO.out.pvv (Is.refl 0)).symm.trans ‹(FloatKind.f64.format.order o4.pvv 0 == some Ordering.lt) = false›)
              go_meet
              exact ⟨o4, T17.out, BO.out, ⟨IO.out.x, IO.out.v, IO.out.pxx, IO.out.pxv, by simp only [gainF, nnS]; unfold nnF; rw [if_neg (by rw [hq]; exact Bool.false_ne_true)]; exact IO.out.pvv⟩, LO.out⟩
          case rest =>
            obtain ⟨w19, rfl⟩ : ∃ x, x = wc := ⟨_, rfl⟩
            obtain ⟨o5, t17, bo, io, lo⟩ := hcut
            clear T17 BO IO LO p0 p1 p2 p3 p4 f2 z1
            have T17 := Lib.hid t17
            have IO := Lib.hid io
            have LO := Lib.hid lo
            obtain ⟨p0, p1, p2, p3, p4⟩ := bo.cells
            have z1 := bo.lt
            have JS := Lib.hid (show JF w g23 o5 { w19 with drawn := w19.drawn + 1 } from ⟨bo, t17.g.hb.drew, _, t17.g.br, rfl⟩)
            have FB : Hid (finL [o5.x, o5.v, o5.pxx, o5.pxv, o5.pvv] = finS (gainF s P nx dt D)) := Lib.hid (by rw [← finS_is io]; unfold finL finS; simp [Bool.and_assoc])
            clear t17 bo io lo
            go_wp2_with fail
            refine wp_region_J 15 (JF w g23 o5) (by kernel_rfl) rfl (by kernel_rfl) JS.out (fun wj hJ hs => ?_)
            have HJ := Lib.hid hJ
            clear hJ
            (refine j_take 0 _ ?_ hs rfl rfl (by kernel_rfl) (by kernel_rfl) HJ.out (fun w' hw' => ?_) ?_; rotate_left; (· (obtain ⟨p0, p1, p2, p3, p4⟩ := Bs.cells hw'.1); go_simp; rfl); (go_simp))
            (refine j_take 1 _ ?_ hs rfl rfl (by kernel_rfl) (by kernel_rfl) HJ.out (fun w' hw' => ?_) ?_; rotate_left; (· (obtain ⟨p0, p1, p2, p3, p4⟩ := Bs.cells hw'.1); go_simp; rfl); (go_simp))
            (refine j_take 2 _ ?_ hs rfl rfl (by kernel_rfl) (by kernel_rfl) HJ.out (fun w' hw' => ?_) ?_; rotate_left; (· (obtain ⟨p0, p1, p2, p3, p4⟩ := Bs.cells hw'.1); go_simp; rfl); (go_simp))
            (refine j_take 3 _ ?_ hs rfl rfl (by kernel_rfl) (by kernel_rfl) HJ.out (fun w' hw' => ?_) ?_; rotate_left; (· (obtain ⟨p0, p1, p2, p3, p4⟩ := Bs.cells hw'.1); go_simp; rfl); (go_simp))
            (refine j_take 4 _ ?_ hs rfl rfl (by kernel_rfl) (by kernel_rfl) HJ.out (fun w' hw' => ?_) ?_; rotate_left; (· (obtain ⟨p0, p1, p2, p3, p4⟩ := Bs.cells hw'.1); go_simp; rfl); (go_simp))
            (refine j_take 5 _ ?_ hs rfl rfl (by kernel_rfl) (by kernel_rfl) HJ.out (fun w' hw' => ?_) ?_; rotate_left; (· (obtain ⟨p0, p1, p2, p3, p4⟩ := Bs.cells hw'.1); go_simp; rfl); (go_simp))
            (refine j_take 6 _ ?_ hs rfl rfl (by kernel_rfl) (by kernel_rfl) HJ.out (fun w' hw' => ?_) ?_; rotate_left; (· (obtain ⟨p0, p1, p2, p3, p4⟩ := Bs.cells hw'.1); go_simp; rfl); (go_simp))
            (refine j_take 7 _ ?_ hs rfl rfl (by kernel_rfl) (by kernel_rfl) HJ.out (fun w' hw' => ?_) ?_; rotate_left; (· (obtain ⟨p0, p1, p2, p3, p4⟩ := Bs.cells hw'.1); go_simp; rfl); (go_simp))
            (refine j_take 8 _ ?_ hs rfl rfl (by kernel_rfl) (by kernel_rfl) HJ.out (fun w' hw' => ?_) ?_; rotate_left; (· (obtain ⟨p0, p1, p2, p3, p4⟩ := Bs.cells hw'.1); go_simp; rfl); (go_simp))
            (refine j_take 9 _ ?_ hs rfl rfl (by kernel_rfl) (by kernel_rfl) HJ.out (fun w' hw' => ?_) ?_; rotate_left; (· (obtain ⟨p0, p1, p2, p3, p4⟩ := Bs.cells hw'.1); go_simp; rfl); (go_simp))
            (refine j_take 10 _ ?_ hs rfl rfl (by kernel_rfl) (by kernel_rfl) HJ.out (fun w' hw' => ?_) ?_; rotate_left; (· (obtain ⟨p0, p1, p2, p3, p4⟩ := Bs.cells hw'.1); go_simp; rfl); (go_simp))
            refine j_one 11 _ rfl (by kernel_rfl) HJ.out ?_
            go_wp2_with fail
            have BN := Lib.hid (Deep.blk_alloc_new wj (.cells #[.float .f64 o5.x, .float .f64 o5.v, .float .f64 o5.pxx, .float .f64 o5.pxv, .float .f64 o5.pvv] 24))
            have HJ := Lib.hid (HJ.out.alloc (.cells #[.float .f64 o5.x, .float .f64 o5.v, .float .f64 o5.pxx, .float .f64 o5.pxv, .float .f64 o5.pvv] 24))
            refine ⟨HJ.out, ?_⟩
            refine j_one 12 _ rfl (by kernel_rfl) HJ.out ?_
            go_wp2_with fail
            refine (fine5_walk o5 wj.heap.size _ _ BN.out LO.out FB.out).mono ?_
            rintro e w20 ⟨rfl, hb⟩
            have HJ := Lib.hid (HJ.out.keep hb)
            clear hb
            go_wp2_with fail
            refine ⟨HJ.out, ?_⟩
            refine j_one 13 _ rfl (by kernel_rfl) HJ.out ?_
            obtain ⟨cr, hcr, hsz⟩ := HJ.out.2.2
            refine wpList_store_at rfl rfl (g := w.heap.size + 1 + 1 + 1) (j := 0) rfl rfl hcr (by kernel_rfl) (by rw [hsz]; exact Nat.le_of_ble_eq_true rfl) (one_fl5 _ _ _ _ _) ?_
            intro w21 b5 ob5
            rw [putAll_full (by rw [hsz]; rfl)] at b5
            have b6 : Bs w21 (w.heap.size + 1 + 1 + 1) o5 := b5
            have HJ := Lib.hid (HJ.out.only ob5 (by have := T17.out.hB; omega) b6)
            obtain ⟨r0, r1, r2, r3, r4⟩ := b6.cells
            clear b5 ob5 hcr hsz
            refine ⟨rfl, HJ.out, ?_⟩
            refine j_one 14 _ rfl (by kernel_rfl) HJ.out ?_
            go_wp2_with fail
            refine ⟨HJ.out, j_done (by kernel_rfl) ?_⟩
            have hb := HJ.out.2.1
            go_wp2_with fail
            refine bodyPost_ret (v := ?_) ?_ rfl ?_
            rotate_left
            · simp [results, Try.results32, go_sem, r0, r1, r2, r3, r4]; rfl
            · exact ⟨o5, rfl, IO.out, LO.out, hb⟩
end Go.Proofs.Ytoobpiednigcgaa

