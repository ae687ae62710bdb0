import Derived.Test.YtdngkeefbpffcaaPrC
import Derived.Test.YtdngkeefbpffcaaFlM
import Derived.Laws.AppendOwnNone
set_option autoImplicit false
set_option linter.unusedVariables false
namespace Lk
open Go Go.RowKit
/-- a row that a call hands back -/
theorem Rowss.call {w0 w w' : World} {F : List Rw} {r : Rw} (h : Rowss w0 w F) (b : Below w.heap.size w w') (ow : w'.ownsRow w.heap.size r.t r.c r.v r.n r.xs) : Rowss w0 w' (r :: F) := by
  have hb := h.below b
  have z := h.b.size
  refine ⟨hb.b, fun q hq => ?_, List.pairwise_cons.2 ⟨fun q hq g hg hg2 => ?_, hb.dj⟩⟩
  · rcases List.mem_cons.1 hq with rfl | hq
    · rcases ow with ⟨h0, h1 | ⟨g, cap, cur, e, h2, h3⟩⟩
      · exact ⟨h0, .inl h1⟩
      · exact ⟨h0, .inr ⟨g, cap, cur, e, Nat.le_trans z h2, h3⟩⟩
    · exact hb.own q hq
  · have a := (ow.lt g hg).1
    have c := ((h.own q hq).lt g hg2).2
    omega
/-- one row's cells are written over -/
theorem Rowss.set1 {w0 w w' : World} {F : List Rw} {r : Rw} {xs' : List Value} {g : Nat} (h : Rowss w0 w (r :: F)) (hg : r.v.ownBlock = some g) (f : Only g w w') (ow : w'.ownsRow w0.heap.size r.t r.c r.v r.n xs') : Rowss w0 w' (⟨r.t, r.c, r.n, r.v, xs'⟩ :: F) := by
  have d := List.pairwise_cons.1 h.dj
  have gB := (h.own r (by simp)).lt g hg
  refine ⟨h.b.trans (f.below gB.1), fun q hq => ?_, List.pairwise_cons.2 ⟨fun q hq => d.1 q hq, d.2⟩⟩
  rcases List.mem_cons.1 hq with rfl | hq
  · exact ow
  · exact own_blocks (h.own q (by simp [hq])) fun k hk => f.block k fun e => d.1 q hq g hg (by rw [← e]; exact hk)
theorem Rowss.swap {w0 w : World} {F : List Rw} {r q : Rw} (h : Rowss w0 w (r :: q :: F)) : Rowss w0 w (q :: r :: F) := h.perm (List.Perm.swap _ _ _)
end Lk
namespace Go.Proofs.Ytdngkeefbpffcaa
open Go.RowKit Lk Rs Pl Fo
section
variable {P : Program} {ops : Array Oper} {rest : List Oper} {o : Oper} {a : Act} {Q : Exit → Act → World → Prop} {w : World}
/-- append of whatever slice to a row of one's own -/
theorem wpList_append_any (hgd : o.guard = none) (s x : Operand) (t : TypeId) (ho : o.op = .call { callee := .builtin .append, args := #[s, x], argTypes := #[t, t] })
    (base : Nat) (e : TypeId) (i : TypeInfo) (z : Value) (size bytes : Nat) (ht : P.underlying t = some (.slice e)) (hi : P.info? e = some i) (hz : i.zero = some z)
    (hsize : i.size = size) (hby : i.bytes = bytes) (hzs : z.cells.size = size) (hsz : 0 < size)
    (v : Value) (n : Nat) (xs : List Value) (hs : a.eval s = v) (hown : w.ownsRow base e size v n xs)
    (ad : Option Addr) (m c : Nat) (news : List Value) (hx : a.eval x = .slice ad m c) (hnil : ad = none → m = 0 ∧ c = 0) (hl : news.length = m * size) (hnews : ∀ b, ad = some b → ∀ j u, news[j]? = some u → w.cell? (b.add j) = some u) (h1 : ∀ u ∈ news, u.oneCell' = true)
    (h63 : n + m ≤ maxLen) (hbytes : (n + m) * bytes ≤ 140737488355328) (hbase : base ≤ w.heap.size)
    (h : ∀ v' w', w'.ownsRow base e size v' (n + m) (xs ++ news) → w.grownBy w' v.ownBlock → (v'.ownBlock = v.ownBlock ∨ v'.ownBlock = some w.heap.size) → wpList P ops Q rest (a.put o.dst v') w') :
    wpList P ops Q (o :: rest) a w := by
  cases ad with
  | none =>
    obtain ⟨rfl, rfl⟩ := hnil rfl
    obtain rfl : news = [] := List.eq_nil_of_length_eq_zero (by omega)
    refine wpList_append_own_none hgd s x t ho base e i size ht hi v n xs hs hown hx (h v w (by simpa using hown) ⟨rfl, rfl, rfl, Nat.le_refl _, fun _ _ _ => rfl⟩ (.inl rfl))
  | some ad =>
    exact wpList_append_own_at _ hgd s x t ho base e i z size bytes ht hi hz hsize hby hzs hsz v n xs hs hown ad m c news hx hl (hnews ad rfl) h1 h63 hbytes hbase (fun v' w' q1 q2 _ q4 => h v' w' q1 q2 q4)
end
/-- a list of the law's own with a mark behind -/
structure Cm where
  g : Nat
  cap : Nat
  C : List Int
def sv (c : Cm) : Value := .slice (some ⟨c.g, 0, none⟩) c.C.length c.cap
def rQ (c : Cm) : Rw := ⟨2, 1, c.C.length + 1, .slice (some ⟨c.g, 0, none⟩) (c.C.length + 1) c.cap, rints (c.C ++ [77])⟩
def rO (v : Value) (T : List Cm) : Rw := ⟨39, 1, T.length, v, T.map sv⟩
def askL (aB : Option Addr) (nB cB : Nat) (aC : Option Addr) (nC cC : Nat) (off most : Int) : List Value := [.slice aB nB cB, .slice aC nC cC, .int .i64 off, .int .i64 most]
def rBox (g : Nat) (xs : List Value) : Rw := ⟨38, 4, 1, .slice (some ⟨g, 0, none⟩) 1 1, xs⟩
/-- one's own: its block -/
theorem own_g {w : World} {B t c n g cap : Nat} {xs : List Value} (h : w.ownsRow B t c (.slice (some ⟨g, 0, none⟩) n cap) n xs) (hc : 0 < c) : n ≤ cap ∧ cap ≤ 9223372036854775807 ∧ B ≤ g ∧ g < w.heap.size ∧ (∀ (j : Nat) u, xs[j]? = some u → w.cell? ⟨g, j, none⟩ = some u) ∧ ∀ j, w.frozen? ⟨g, j, none⟩ = false := by
  have hcl := fun j u (hj : xs[j]? = some u) => h.cells (g := g) rfl j u hj
  rcases h.2 with ⟨e, _⟩ | ⟨g', cap', cur', e, hB, hb, h1, h2, _⟩
  · cases e
  · simp only [Value.slice.injEq, Option.some.injEq, Addr.mk.injEq, and_true, true_and] at e
    obtain ⟨rfl, rfl⟩ := e
    refine ⟨h1, by unfold maxLen at h2; omega, hB, (Array.getElem?_eq_some_iff.1 hb).1, fun j u hj => ?_, fun j => by simp [World.frozen?, hb]⟩
    have := hcl j u hj
    rw [Addr.add_lit, Nat.zero_add] at this; exact this
theorem box_own (w : World) (xs : List Value) (h : xs.length = 4) : (w.alloc (.cells xs.toArray 38)).ownsRow w.heap.size 38 4 (.slice (some ⟨w.heap.size, 0, none⟩) 1 1) 1 xs :=
  ⟨by rw [h], .inr ⟨w.heap.size, 1, _, rfl, Nat.le_refl _, Deep.blk_alloc_new _ _, Nat.le_refl _, by unfold maxLen; omega, by simp [h], List.take_of_length_le (by show xs.length ≤ 1 * 4; omega)⟩⟩
theorem empty_i (w : World) {B : Nat} (h : B ≤ w.heap.size) : (w.alloc (.cells #[] 2)).ownsRow B 2 1 (.slice (some ⟨w.heap.size, 0, none⟩) 0 0) 0 [] :=
  ⟨rfl, .inr ⟨w.heap.size, 0, #[], rfl, h, Deep.blk_alloc_new _ _, Nat.le_refl _, Nat.zero_le _, rfl, rfl⟩⟩
theorem empty_b (w : World) {B : Nat} (h : B ≤ w.heap.size) : (w.alloc (.cells #[] 24)).ownsRow B 24 5 (.slice (some ⟨w.heap.size, 0, none⟩) 0 0) 0 [] :=
  ⟨rfl, .inr ⟨w.heap.size, 0, #[], rfl, h, Deep.blk_alloc_new _ _, Nat.le_refl _, Nat.zero_le _, rfl, rfl⟩⟩
theorem one_i (w : World) {B : Nat} (h : B ≤ w.heap.size) (x : Int) : (w.alloc (.cells #[.int .i64 x] 2)).ownsRow B 2 1 (.slice (some ⟨w.heap.size, 0, none⟩) 1 1) 1 [.int .i64 x] := own_one (Deep.blk_alloc_new _ _) h rfl
def mk78 : Bt := ⟨0, 0, 0, 0, 78⟩
theorem one_b (w : World) {B : Nat} (h : B ≤ w.heap.size) : (w.alloc (.cells #[.float .f64 0, .float .f64 0, .float .f64 0, .int .i64 0, .int .i64 78] 24)).ownsRow B 24 5 (.slice (some ⟨w.heap.size, 0, none⟩) 1 1) 1 (btL mk78) :=
  ⟨rfl, .inr ⟨w.heap.size, 1, _, rfl, h, Deep.blk_alloc_new _ _, Nat.le_refl _, by unfold maxLen; omega, rfl, rfl⟩⟩
/-- a list of beats, its cells -/
def flB (L : List Bt) : List Value := L.flatMap btL
theorem flB_len (L : List Bt) : (flB L).length = L.length * 5 := by
  unfold flB
  induction L with
  | nil => rfl
  | cons a L ih => rw [List.flatMap_cons, List.length_append, ih, List.length_cons]; simp [btL]; omega
theorem flB_get {L : List Bt} {j : Nat} {a : Bt} (h : L[j]? = some a) {q : Nat} {u : Value} (hu : (btL a)[q]? = some u) : (flB L)[j * 5 + q]? = some u := by
  induction L generalizing j with
  | nil => simp at h
  | cons b L ih =>
    have e : flB (b :: L) = btL b ++ flB L := by simp [flB]
    rw [e]
    have hq : q < 5 := by have := (List.getElem?_eq_some_iff.1 hu).1; simpa [btL] using this
    cases j with
    | zero =>
      simp only [List.getElem?_cons_zero, Option.some.injEq] at h
      subst h
      rw [List.getElem?_append_left (by simp [btL]; omega), ← hu]; simp
    | succ j =>
      rw [List.getElem?_cons_succ] at h
      rw [List.getElem?_append_right (by simp [btL]; omega), ← ih h]
      congr 1
      simp [btL]; omega
theorem btL_one (t : Bt) : ∀ u ∈ btL t, u.oneCell' = true := by
  intro u hu
  simp only [btL, List.mem_cons, List.not_mem_nil, or_false] at hu
  rcases hu with rfl | rfl | rfl | rfl | rfl <;> rfl
theorem flB_one (L : List Bt) : ∀ u ∈ flB L, u.oneCell' = true := by
  intro u hu
  obtain ⟨t, _, ht⟩ := List.mem_flatMap.1 hu
  exact btL_one t u ht
theorem bt_src {w : World} {a : Option Addr} {n cap : Nat} {l : List Bt} (h : SBt w a n cap l) : ∀ b, a = some b → ∀ j u, (flB l)[j]? = some u → w.cell? (b.add j) = some u := by
  intro b hb j u hu
  rcases h.cells with h0 | ⟨g, off, ha, hg, hc⟩
  · have : l = [] := List.eq_nil_of_length_eq_zero (by rw [h.len]; exact h0)
    subst this; cases hu
  · rw [ha] at hb
    cases hb
    have hj := (List.getElem?_eq_some_iff.1 hu).1
    rw [flB_len] at hj
    have hq : j / 5 < l.length := by omega
    have c := hc (j / 5) _ (List.getElem?_eq_getElem hq)
    have e : j = j / 5 * 5 + j % 5 := by omega
    have r5 : j % 5 < 5 := Nat.mod_lt _ (by omega)
    obtain ⟨r, hr⟩ : ∃ r, r = j % 5 := ⟨_, rfl⟩
    rw [← hr] at e r5
    have g2 : (btL l[j / 5])[r]? = some u := by
      have hl : r < (btL l[j / 5]).length := by simp [btL]; omega
      have := flB_get (List.getElem?_eq_getElem hq) (List.getElem?_eq_getElem hl)
      rw [← e, hu] at this
      rw [List.getElem?_eq_getElem hl, this]
    rw [Addr.add_lit, e, ← Nat.add_assoc]
    match r, r5, g2 with
    | 0, _, g2 => cases g2; exact c.c0
    | 1, _, g2 => cases g2; exact c.c1
    | 2, _, g2 => cases g2; exact c.c2
    | 3, _, g2 => cases g2; exact c.c3
    | 4, _, g2 => cases g2; exact c.c4
theorem sn_src {w : World} {a : Option Addr} {n cap : Nat} {l : List Int} (h : SN w a n cap l) : ∀ b, a = some b → ∀ j u, (rints l)[j]? = some u → w.cell? (b.add j) = some u := by
  intro b hb j u hu
  unfold rints at hu
  rw [List.getElem?_map, Option.map_eq_some_iff] at hu
  obtain ⟨x, hx, rfl⟩ := hu
  rcases h.cells with h0 | ⟨g, off, ha, hg, hc⟩
  · have : l = [] := List.eq_nil_of_length_eq_zero (by rw [h.len]; exact h0)
    subst this; cases hx
  · rw [ha] at hb
    cases hb
    rw [Addr.add_lit]; exact hc j x hx
theorem rints_one (l : List Int) : ∀ u ∈ rints l, u.oneCell' = true := by
  intro u hu
  obtain ⟨x, _, rfl⟩ := List.mem_map.1 hu; rfl
theorem rints_len (l : List Int) : (rints l).length = l.length := by simp [rints]
/-- the front of a list with its mark -/
theorem cm_sn {w : World} {B g cap : Nat} {C : List Int} (h : w.ownsRow B 2 1 (.slice (some ⟨g, 0, none⟩) (C.length + 1) cap) (C.length + 1) (rints (C ++ [77]))) : SN w (some ⟨g, 0, none⟩) C.length cap C ∧ C.length + 1 ≤ cap ∧ cap ≤ 9223372036854775807 ∧ g < w.heap.size ∧ w.cell? ⟨g, C.length, none⟩ = some (.int .i64 77) := by
  obtain ⟨h1, h2, _, h3, h4, _⟩ := own_g h (by omega)
  refine ⟨⟨rfl, by omega, h2, .inr ⟨g, 0, rfl, h3, fun j x hx => ?_⟩⟩, h1, h2, h3, ?_⟩
  · rw [Nat.zero_add]
    exact h4 j _ (rints_at (by rw [List.getElem?_append_left (List.getElem?_eq_some_iff.1 hx).1]; exact hx))
  · exact h4 _ _ (rints_at (by rw [List.getElem?_append_right (Nat.le_refl _), Nat.sub_self]; rfl))
theorem cells_sc {w : World} {B : Nat} {v : Value} {T : List Cm} (hc : w.ownsRow B 39 1 v T.length (T.map sv)) (ht : ∀ t ∈ T, w.ownsRow B 2 1 (.slice (some ⟨t.g, 0, none⟩) (t.C.length + 1) t.cap) (t.C.length + 1) (rints (t.C ++ [77]))) : ∃ a cap, v = .slice a T.length cap ∧ SC w a T.length cap (T.map (·.C)) := by
  rcases hc.2 with ⟨rfl, h0⟩ | ⟨g, cap, cur, rfl, hB, hb, h1, h2, _, h3⟩
  · rw [h0]; exact ⟨none, 0, rfl, by rw [List.length_map]; omega, Nat.le_refl _, by omega, .inl rfl⟩
  · refine ⟨_, cap, rfl, by rw [List.length_map], h1, by unfold maxLen at h2; omega, .inr ⟨g, 0, rfl, (Array.getElem?_eq_some_iff.1 hb).1, fun j C hC => ?_⟩⟩
    rw [List.getElem?_map, Option.map_eq_some_iff] at hC
    obtain ⟨t, ht1, rfl⟩ := hC
    refine ⟨_, _, ?_, (cm_sn (ht t (List.mem_of_getElem? ht1))).1⟩
    have := hc.cells (g := g) rfl j (sv t) (by rw [List.getElem?_map, ht1]; rfl)
    rw [Addr.add_lit] at this; exact this
theorem beats_sb {w : World} {B n : Nat} {v : Value} {L : List Bt} (h : w.ownsRow B 24 5 v (n + 1) (flB (L ++ [mk78]))) (hl : L.length = n) (ok : ∀ t ∈ L, BtOk t) : ∃ g cap, v = .slice (some ⟨g, 0, none⟩) (n + 1) cap ∧ n + 1 ≤ cap ∧ cap ≤ 9223372036854775807 ∧ g < w.heap.size ∧ SBt w (some ⟨g, 0, none⟩) n cap L ∧ w.cell? ⟨g, n * 5 + 4, none⟩ = some (.int .i64 78) := by
  rcases h.2 with ⟨_, h0⟩ | ⟨g, cap, cur, rfl, _⟩
  · omega
  · obtain ⟨h1, h2, _, h3, h4, _⟩ := own_g h (by omega)
    refine ⟨g, cap, rfl, h1, h2, h3, ⟨hl, by omega, h2, .inr ⟨g, 0, rfl, h3, fun j t ht => ?_⟩, ok⟩, ?_⟩
    · have hj := (List.getElem?_eq_some_iff.1 ht).1
      have at' : ∀ q u, (btL t)[q]? = some u → w.cell? ⟨g, 0 + j * 5 + q, none⟩ = some u := fun q u hu => by
        rw [Nat.zero_add]
        exact h4 _ u (flB_get (by rw [List.getElem?_append_left hj]; exact ht) hu)
      exact ⟨at' 0 _ rfl, at' 1 _ rfl, at' 2 _ rfl, at' 3 _ rfl, at' 4 _ rfl⟩
    · exact h4 _ _ (flB_get (a := mk78) (by rw [List.getElem?_append_right (by omega), hl, Nat.sub_self]; rfl) rfl)
theorem own_seti {w : World} {B g n cap j : Nat} {xs : List Value} {u : Value} (h : w.ownsRow B 2 1 (.slice (some ⟨g, 0, none⟩) n cap) n xs) (hj : j < n) : (w.setCell ⟨g, j, none⟩ u).ownsRow B 2 1 (.slice (some ⟨g, 0, none⟩) n cap) n (xs.set j u) := by
  rcases h with ⟨h0, h⟩
  refine ⟨by rw [List.length_set]; exact h0, ?_⟩
  rcases h with ⟨_, h0⟩ | ⟨g', cap', cur', e, hB, hb, h1, h3, h4, h5⟩
  · omega
  · simp only [Value.slice.injEq, Option.some.injEq, Addr.mk.injEq, and_true, true_and] at e
    obtain ⟨rfl, rfl⟩ := e
    refine .inr ⟨g, cap, _, rfl, hB, rs_set w g j u hb, h1, h3, by rw [Array.size_setIfInBounds]; exact h4, ?_⟩
    rw [← h5, Array.toList_setIfInBounds, List.take_set]
theorem only_set (w : World) (g j : Nat) (u : Value) : Only g w (w.setCell ⟨g, j, none⟩ u) := ⟨rfl, rfl, rfl, by simp [World.setCell], fun k hk => Deep.blk_setCell_other _ _ _ _ hk⟩
/-- what a region of the law reads of the box -/
structure JX (W : World) (g : Nat) (xs : List Value) (x : World) : Prop where
  b : Below W.heap.size W x
  c : ∀ (j : Nat) u, xs[j]? = some u → x.cell? ⟨g, j, none⟩ = some u
  lt : g < x.heap.size
theorem JX.drew {W x : World} {g : Nat} {xs : List Value} (h : JX W g xs x) : JX W g xs { x with drawn := x.drawn + 1 } := ⟨h.b.drew, h.c, h.lt⟩
theorem jx_of {W x : World} {F : List Rw} {g : Nat} {xs : List Value} (h : Rowss W x F) (hm : rBox g xs ∈ F) : JX W g xs x := by
  obtain ⟨_, _, _, h3, h4, _⟩ := own_g (h.own _ hm) (by show 0 < 4; omega)
  exact ⟨h.b, h4, h3⟩
end Go.Proofs.Ytdngkeefbpffcaa
