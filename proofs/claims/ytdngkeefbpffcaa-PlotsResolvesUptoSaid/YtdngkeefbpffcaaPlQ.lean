import Derived.Test.YtdngkeefbpffcaaPlP
set_option autoImplicit false
set_option linter.unusedVariables false
namespace Go.Proofs.Ytdngkeefbpffcaa
open Go.RowKit Lk Pl
/-- what Merge makes: places and the powers that go together -/
def mergeL (l : List Pt) (m s : Nat) : Nat → List Nat → List (Nat × List Nat)
  | 0, _ => []
  | _ + 1, [] => []
  | f + 1, i :: R => (i, pw l i :: (nrs l (l.getD i pt0) m s R).map (pw l)) :: mergeL l m s f (nks l (l.getD i pt0) m s R)
def mtch (l : List Pt) (q : Pt) (t : Nat × List Nat) : Prop := ∃ x, q = ⟨(l.getD t.1 pt0).range, (l.getD t.1 pt0).speed, x, (l.getD t.1 pt0).bearing, (l.getD t.1 pt0).time⟩ ∧ Is x (sumP t.2) ∧ x < 18446744073709551616
def Ms (l : List Pt) (L : List Pt) (T : List (Nat × List Nat)) : Prop := L.length = T.length ∧ ∀ (k : Nat) q t, L[k]? = some q → T[k]? = some t → mtch l q t
theorem Ms.nil (l : List Pt) : Ms l [] [] := ⟨rfl, fun k q t h => by simp at h⟩
theorem Ms.snoc {l L : List Pt} {T : List (Nat × List Nat)} {q : Pt} {t : Nat × List Nat} (h : Ms l L T) (hq : mtch l q t) : Ms l (L ++ [q]) (T ++ [t]) := by
  refine ⟨by simp [h.1], fun k q' t' h1 h2 => ?_⟩
  by_cases hk : k < L.length
  · rw [List.getElem?_append_left hk] at h1
    rw [List.getElem?_append_left (by rw [← h.1]; exact hk)] at h2
    exact h.2 k q' t' h1 h2
  · have hl := (List.getElem?_eq_some_iff.1 h1).1
    rw [List.length_append, List.length_cons, List.length_nil] at hl
    obtain rfl : k = L.length := by omega
    rw [List.getElem?_append_right (by omega), Nat.sub_self] at h1
    rw [h.1, List.getElem?_append_right (by omega), Nat.sub_self] at h2
    cases h1; cases h2; exact hq
def ptv (p : Pt) : List Value := [.float .f64 p.range, .float .f64 p.speed, .float .f64 p.power, .float .f64 p.bearing, .float .f64 p.time]
def plv (L : List Pt) : List Value := L.flatMap ptv
theorem plv_len (L : List Pt) : (plv L).length = L.length * 5 := by
  unfold plv
  induction L with
  | nil => rfl
  | cons a L ih => rw [List.flatMap_cons, List.length_append, ih, List.length_cons]; simp [ptv]; omega
theorem plv_snoc (L : List Pt) (p : Pt) : plv L ++ ptv p = plv (L ++ [p]) := by unfold plv; simp
theorem row_low {w : World} {B B' t c n : Nat} {v : Value} {xs : List Value} (h : w.ownsRow B' t c v n xs) (hB : B ≤ B') : w.ownsRow B t c v n xs := by
  rcases h with ⟨h0, h1 | ⟨g, cap, cur, rfl, h2, h3⟩⟩
  · exact ⟨h0, .inl h1⟩
  · exact ⟨h0, .inr ⟨g, cap, cur, rfl, Nat.le_trans hB h2, h3⟩⟩
/-- Order's word, whatever way it is proved -/
def OrdOf (a : Option Addr) (n cap : Nat) (l : List Pt) (o : List Nat) : Prop :=
  ∀ w, Sp w a n cap l → Calls Try.prog 20 #[.slice a n cap] w (fun e w' => ∃ g, e = .returned (.slice (some ⟨g, 0, none⟩) n n) ∧ w.heap.size ≤ g ∧ Di w' g o ∧ Below w.heap.size w w')
def sliceLen : Value → Nat | .slice _ n _ => n | _ => 0
/-- what stands in memory between two rounds of Merge -/
structure Me (w : World) (B1 g : Nat) (a : Option Addr) (n cap : Nat) (m s : Nat) (v : Value) (L : List Pt) (D : List Nat) (wr : World) : Prop where
  b : Below w.heap.size w wr
  cl : wr.cell? ⟨w.heap.size, 0, none⟩ = some (.slice a n cap)
  cm : wr.cell? ⟨w.heap.size + 1, 0, none⟩ = some (.float .f64 m)
  cs : wr.cell? ⟨w.heap.size + 1 + 1, 0, none⟩ = some (.float .f64 s)
  d : Di wr g D
  out : wr.ownsRow B1 28 5 v L.length (plv L)
  sz : B1 ≤ wr.heap.size
  gl : w.heap.size + 3 ≤ g
  gB : g < B1
theorem Me.below {w : World} {B1 g : Nat} {a : Option Addr} {n cap m s : Nat} {v : Value} {L : List Pt} {D : List Nat} {wr w' : World} (h : Me w B1 g a n cap m s v L D wr) (b : Below wr.heap.size wr w') : Me w B1 g a n cap m s v L D w' := by
  have z1 := h.sz
  have z2 := h.gB
  have z3 := h.gl
  exact ⟨h.b.trans (b.mono h.b.size), (b.cell (p := ⟨w.heap.size, 0, none⟩) (by simp only; omega)).trans h.cl, (b.cell (p := ⟨w.heap.size + 1, 0, none⟩) (by simp only; omega)).trans h.cm, (b.cell (p := ⟨w.heap.size + 1 + 1, 0, none⟩) (by simp only; omega)).trans h.cs, h.d.keep b, rs_own h.out fun k hk => b.block k (h.out.lt k hk).2, Nat.le_trans z1 b.size, z3, z2⟩
theorem Me.gf {w : World} {B1 g : Nat} {a : Option Addr} {n cap m s : Nat} {v : Value} {L : List Pt} {D E : List Nat} {wr w' : World} (h : Me w B1 g a n cap m s v L D wr) (f : Gf wr.heap.size g wr w') (d : Di w' g E) : Me w B1 g a n cap m s v L E w' := by
  have z1 := h.sz
  have z2 := h.gB
  have z3 := h.gl
  have z4 := h.b.size
  refine ⟨⟨f.os.trans h.b.os, f.tape.trans h.b.tape, f.output.trans h.b.output, Nat.le_trans z4 f.size, fun k hk => (f.block k (by omega) (by omega)).trans (h.b.block k hk)⟩, (f.at (by omega) (by omega) _).trans h.cl, (f.at (by omega) (by omega) _).trans h.cm, (f.at (by omega) (by omega) _).trans h.cs, d, rs_own h.out fun k hk => f.block k (h.out.lt k hk).2 (by have := (h.out.lt k hk).1; omega), Nat.le_trans z1 f.size, z3, z2⟩
theorem Me.app {w : World} {B1 g : Nat} {a : Option Addr} {n cap m s : Nat} {v v' : Value} {L : List Pt} {D : List Nat} {wr w' : World} {ob : Obj} {q : Pt} (h : Me w B1 g a n cap m s v L D wr) (ow : w'.ownsRow B1 28 5 v' (L.length + 1) (plv L ++ ptv q)) (gr : (wr.alloc ob).grownBy w' v.ownBlock) : Me w B1 g a n cap m s v' (L ++ [q]) D w' := by
  have z1 := h.sz
  have z2 := h.gB
  have z3 := h.gl
  have z4 := h.b.size
  have bl : ∀ k, k < B1 → w'.heap[k]? = wr.heap[k]? := fun k hk => (gr.block k (by simp; omega) (fun e => by have := (h.out.lt k e.symm).1; omega)).trans (Deep.blk_alloc_lt wr ob k (by omega))
  have cl : ∀ k o, k < B1 → w'.cell? ⟨k, o, none⟩ = wr.cell? ⟨k, o, none⟩ := fun k o hk => World.cell?_of_block (a := ⟨k, o, none⟩) (bl k hk)
  have zs := gr.size
  simp only [szN] at zs
  refine ⟨⟨gr.os.trans h.b.os, gr.tape.trans h.b.tape, gr.output.trans h.b.output, by omega, fun k hk => (bl k (by omega)).trans (h.b.block k hk)⟩, (cl _ _ (by omega)).trans h.cl, (cl _ _ (by omega)).trans h.cm, (cl _ _ (by omega)).trans h.cs, (bl g z2).trans h.d, ?_, by omega, z3, z2⟩
  rw [List.length_append, ← plv_snoc]; exact ow
theorem run_tl (g off N co : Nat) (h : 1 ≤ N) (hN : N ≤ co) (hs : co ≤ 9223372036854775807) : ∃ off2, (off2 = off + 1 ∨ (N = 1 ∧ off2 = off)) ∧ ∀ w, (Instr.slice 48 (.slice (some ⟨g, off, none⟩) N co) (some (.int .i64 1)) none none).run Try.prog w = .ok (.slice (some ⟨g, off2, none⟩) (N - 1) (co - 1)) w := by
  have hz : ∀ w, (sizeOf 3).run Try.prog w = .ok 1 w := fun w => by kernel_rfl
  have n1 : ¬ (N : Int) < 1 := by omega
  by_cases hc : co = 1
  · subst hc
    refine ⟨off, .inr ⟨by omega, rfl⟩, fun w => ?_⟩
    simp [Instr.slice, run_underlying Try.und48, Instr.sliceBounds, Instr.sliceBound, asIntOf, go_sem, hz, n1]
  · refine ⟨off + 1, .inl rfl, fun w => ?_⟩
    simp [Instr.slice, run_underlying Try.und48, Instr.sliceBounds, Instr.sliceBound, asIntOf, go_sem, hz, hc, n1]
theorem pt_info : (Try.prog.info? 28).map (fun i => (i.zero.map (fun z => z.cells.size), i.size, i.bytes)) = some (some 5, 5, 40) := by kernel_rfl
theorem Try.undP : Try.prog.underlying 47 = some (.slice 28) := by kernel_rfl
theorem mpt_cells {w : World} {g : Nat} {q : Pt} {ty : TypeId} (h : w.heap[g]? = some (.cells #[.float .f64 q.range, .float .f64 q.speed, .float .f64 q.power, .float .f64 q.bearing, .float .f64 q.time] ty (0, 0))) : ∀ (j : Nat) (u : Value), (ptv q)[j]? = some u → w.cell? ((⟨g, 0, none⟩ : Addr).add j) = some u := by
  intro j u hu
  rw [Addr.add_lit]
  simp only [World.cell?, h, Nat.zero_add]
  simpa [ptv] using hu
theorem mpt_one (q : Pt) : ∀ u ∈ ptv q, u.oneCell' = true := by
  intro u hu
  simp only [ptv, List.mem_cons, List.not_mem_nil, or_false] at hu
  rcases hu with rfl | rfl | rfl | rfl | rfl <;> rfl
set_option maxRecDepth 100000 in
set_option maxHeartbeats 4000000 in
theorem merge_walk0 (a : Option Addr) (n cap : Nat) (l : List Pt) (o : List Nat) (m s : Nat) (w : World) (h : Sp w a n cap l) (hs : ∀ q, a = some q → q.block < w.heap.size ∨ n = 0) (ho : OrdOf a n cap l o) (hol : o.length = n) (hom : ∀ x ∈ o, x < n) (hn : n ≤ 1048575) :
    Calls Try.prog 23 #[.slice a n cap, .float .f64 m, .float .f64 s] w
      (fun e w' => ∃ v L, e = .returned v ∧ w'.ownsRow w.heap.size 28 5 v L.length (plv L) ∧ Ms l L (mergeL l m s n o) ∧ Below w.heap.size w w') := by
  have HO := Lib.hid (And.intro hol hom)
  have HS := Lib.hid h
  have OO := Lib.hid ho
  have HB := Lib.hid hs
  clear h ho hol hom hs
  go_enter Try.func23, Try.ntmps23
  go_wp2_with fail
  have b0 : Below w.heap.size w (((w.alloc (.cells #[.slice a n cap] 47)).alloc (.cells #[.float .f64 m] 22)).alloc (.cells #[.float .f64 s] 22)) := by (repeat' (first | exact Below.refl _ _ | refine below_drewN ?_ _ | refine Below.setCell ?_ (by first | exact Nat.le_refl _ | (simp; done) | (simp; omega)) _ | refine Below.alloc ?_ (by first | exact Nat.le_refl _ | (simp; done) | (simp; omega)) _))
  refine (OO.out _ (HS.out.keep b0)).mono ?_
  rintro e w1 ⟨g, rfl, hg, hd, hb⟩
  have zz : (((w.alloc (.cells #[.slice a n cap] 47)).alloc (.cells #[.float .f64 m] 22)).alloc (.cells #[.float .f64 s] 22)).heap.size = w.heap.size + 3 := by simp
  have M1 : Hid (Me w w1.heap.size g a n cap m s (.slice none 0 0) [] o w1) := Lib.hid (by
    have e1 : ∀ k, k < w.heap.size + 3 → w1.cell? ⟨k, 0, none⟩ = (((w.alloc (.cells #[.slice a n cap] 47)).alloc (.cells #[.float .f64 m] 22)).alloc (.cells #[.float .f64 s] 22)).cell? ⟨k, 0, none⟩ := fun k hk => hb.cell (p := ⟨k, 0, none⟩) (by simp only; omega)
    refine ⟨b0.trans (hb.mono b0.size), ?_, ?_, ?_, hd, World.ownsRow_nil _ _ _ _, Nat.le_refl _, by omega, hd.lt⟩
    · rw [e1 _ (by omega)]; go_simp
    · rw [e1 _ (by omega)]; go_simp
    · rw [e1 _ (by omega)]; go_simp)
  clear hg hd hb b0 zz OO
  go_wp2_with fail
  go_loopw [7, 8] (fun v7 v8 wr => ∃ (off N co f : Nat) (L : List Pt) (D R : List Nat) (T : List (Nat × List Nat)), v7 = .slice (some ⟨g, off, none⟩) N co ∧ N ≤ co ∧ co ≤ n ∧ R.length = N ∧ N ≤ f ∧ off + N ≤ D.length ∧ (∀ x ∈ R, x < n) ∧ (∀ k x : Nat, R[k]? = some x → D[off + k]? = some x) ∧ Ms l L T ∧ mergeL l m s n o = T ++ mergeL l m s f R ∧ L.length + N ≤ n ∧ Me w w1.heap.size g a n cap m s v8 L D wr) (fun v7 _ _ => sliceLen v7)
  case atStart => exact ⟨0, n, n, n, [], o, o, [], rfl, by omega, by omega, HO.out.1, by omega, by rw [HO.out.1]; omega, HO.out.2, fun k x hk => by rw [Nat.zero_add]; exact hk, Ms.nil _, rfl, by simp, M1.out⟩
  case round =>
    clear M1
    obtain ⟨off, N, co, f, L, D, R, T, rfl, hN, hco, hRl, hf, hD, hRm, hR, hMs, hT, hLn, hme⟩ := hrel
    have ME := Lib.hid hme
    have RR := Lib.hid (And.intro hRl (And.intro hRm hR))
    have TT := Lib.hid (And.intro hMs hT)
    obtain ⟨ao, cap8, rfl, o1, o2⟩ := rs_form hme.out
    clear hme hRl hRm hR hMs hT
    by_cases hlt : 0 < N
    · have n0 : (0 : Int) < (N : Int) := by omega
      obtain ⟨i, R', hRi⟩ : ∃ i R', R = i :: R' := by
        cases R with
        | nil => have := RR.out.1; simp at this; omega
        | cons i R' => exact ⟨i, R', rfl⟩
      subst hRi
      have hi : i < n := RR.out.2.1 i (by simp)
      have hil : i < l.length := by rw [HS.out.len]; exact hi
      have gD := ME.out.d.cell (RR.out.2.2 0 i rfl)
      have gl := ME.out.d.lt
      have SW := Lib.hid (HS.out.keep ME.out.b)
      obtain ⟨bp, op, p, rfl, hb, hp', ⟨p0, p1, p2, p3, p4⟩, ltp⟩ := SW.out.at hi
      have HP := Lib.hid hp'
      have LP := Lib.hid ltp
      have c1 := ME.out.cl
      have i1 : (i : Int) < (n : Int) := by omega
      have zk : w.heap.size < wr.heap.size := by have := ME.out.gl; have := ME.out.gB; have := ME.out.sz; omega
      simp only [Nat.add_zero] at gD
      clear hp' ltp
      go_wp2_with fail
      refine wp_region_J1 8 (fun x => Below wr.heap.size wr x) (by kernel_rfl) rfl (by kernel_rfl) ((Below.refl _ wr).drew) (fun w4 hb4 hJ hs => ?_)
      have HJ := Lib.hid hJ
      clear hJ hb4
      (refine j_take 0 _ ?_ hs rfl rfl (by kernel_rfl) (by kernel_rfl) HJ.out (fun w' hw' => ?_) ?_; rotate_left; (· have d := (hw'.cell (p := ⟨w.heap.size, 0, none⟩) zk).trans c1; go_simp; rfl); (go_simp))
      (refine j_take 1 _ ?_ hs rfl rfl (by kernel_rfl) (by kernel_rfl) HJ.out (fun w' hw' => ?_) ?_; rotate_left; (· skip; go_simp; rfl); (go_simp))
      (refine j_take 2 _ ?_ hs rfl rfl (by kernel_rfl) (by kernel_rfl) HJ.out (fun w' hw' => ?_) ?_; rotate_left; (· skip; go_simp; rfl); (go_simp))
      (refine j_take 3 _ ?_ hs rfl rfl (by kernel_rfl) (by kernel_rfl) HJ.out (fun w' hw' => ?_) ?_; rotate_left; (· have d := (hw'.cell (p := ⟨g, off, none⟩) gl).trans gD; go_simp; rfl); (go_simp))
      (refine j_take 4 _ ?_ hs rfl rfl (by kernel_rfl) (by kernel_rfl) HJ.out (fun w' hw' => ?_) ?_; rotate_left; (· skip; go_simp; rfl); (go_simp))
      (refine j_take 5 _ ?_ hs rfl rfl (by kernel_rfl) (by kernel_rfl) HJ.out (fun w' hw' => ?_) ?_; rotate_left; (· obtain ⟨d0, d1, d2, d3, d4⟩ := AtP.keep ⟨p0, p1, p2, p3, p4⟩ hb hw'; go_simp; rfl); (go_simp))
      refine j_one 6 _ rfl (by kernel_rfl) HJ.out ?_
      go_wp2_with fail
      have HA := Lib.hid (HJ.out.alloc HJ.out.size (.cells #[.float .f64 0, .float .f64 0, .float .f64 0, .float .f64 0, .float .f64 0] 28))
      refine ⟨HA.out, ?_⟩
      refine j_one 7 _ rfl (by kernel_rfl) HA.out ?_
      go_wp2_with fail
      have HA := Lib.hid (HJ.out.alloc HJ.out.size (.cells #[.float .f64 p.range, .float .f64 p.speed, .float .f64 p.power, .float .f64 p.bearing, .float .f64 p.time] 28))
      refine ⟨HA.out, j_done (by kernel_rfl) ?_⟩
      have hco63 : co ≤ 9223372036854775807 := by omega
      obtain ⟨off2, hof, htl⟩ := run_tl g off N co hlt hN hco63
      have HOF := Lib.hid hof
      clear hof p0 p1 p2 p3 p4 c1 gD HA
      go_wp2_with fail
      have gp : l.getD i pt0 = p := by rw [List.getD_eq_getElem?_getD, HP.out]; rfl
      have B5 : Hid (Below wr.heap.size wr (((w4.alloc (.cells #[.float .f64 p.range, .float .f64 p.speed, .float .f64 p.power, .float .f64 p.bearing, .float .f64 p.time] 28)).alloc (.cells #[.float .f64 p.power] 22)).alloc (.cells #[.slice (some ⟨w4.heap.size + 1, 0, none⟩) 1 1] 72))) := Lib.hid (by
        refine Below.alloc (Below.alloc (Below.alloc HJ.out ?_ _) ?_ _) ?_ _
        · exact HJ.out.size
        · simp; have := HJ.out.size; omega
        · simp; have := HJ.out.size; omega)
      obtain ⟨w5, hw5⟩ : ∃ x, x = (((w4.alloc (.cells #[.float .f64 p.range, .float .f64 p.speed, .float .f64 p.power, .float .f64 p.bearing, .float .f64 p.time] 28)).alloc (.cells #[.float .f64 p.power] 22)).alloc (.cells #[.slice (some ⟨w4.heap.size + 1, 0, none⟩) 1 1] 72)) := ⟨_, rfl⟩
      have z4 := HJ.out.size
      have zm := ME.out.gl
      have zg := ME.out.gB
      have zs := ME.out.sz
      have zw := ME.out.b.size
      have s5 : w5.heap.size = w4.heap.size + 3 := by rw [hw5]; simp
      have k1 : w5.heap[w4.heap.size]? = some (.cells #[.float .f64 p.range, .float .f64 p.speed, .float .f64 p.power, .float .f64 p.bearing, .float .f64 p.time] 28 (0, 0)) := by
        rw [hw5, Deep.blk_alloc_lt _ _ _ (by simp; omega), Deep.blk_alloc_lt _ _ _ (by simp), Deep.blk_alloc_new]
      have k2 : w5.heap[w4.heap.size + 1]? = some (.cells #[.float .f64 p.power] 22 (0, 0)) := by
        rw [hw5, Deep.blk_alloc_lt _ _ _ (by simp)]
        have := Deep.blk_alloc_new (w4.alloc (.cells #[.float .f64 p.range, .float .f64 p.speed, .float .f64 p.power, .float .f64 p.bearing, .float .f64 p.time] 28)) (.cells #[.float .f64 p.power] 22)
        simpa using this
      have k3 : w5.heap[w4.heap.size + 1 + 1]? = some (.cells #[.slice (some ⟨w4.heap.size + 1, 0, none⟩) 1 1] 72 (0, 0)) := by
        rw [hw5]
        have := Deep.blk_alloc_new ((w4.alloc (.cells #[.float .f64 p.range, .float .f64 p.speed, .float .f64 p.power, .float .f64 p.bearing, .float .f64 p.time] 28)).alloc (.cells #[.float .f64 p.power] 22)) (.cells #[.slice (some ⟨w4.heap.size + 1, 0, none⟩) 1 1] 72)
        simpa using this
      rw [← hw5] at B5 ⊢
      clear hw5
      have M5 := Lib.hid (ME.out.below B5.out)
      have bpw : bp < w.heap.size := (HB.out _ rfl).resolve_right (by omega)
      have MC : Hid (Mc (w4.heap.size + 1) w5 w.heap.size w4.heap.size (w.heap.size + 1) (w.heap.size + 1 + 1) (some ⟨bp, op, none⟩) n cap l p m s) := Lib.hid (by
        refine ⟨M5.out.cl, ⟨?_, ?_, ?_, ?_, ?_⟩, M5.out.cm, M5.out.cs, SW.out.keep B5.out, LP.out, by omega, by omega, by omega, by omega, by omega, fun q hq => by cases hq; simp only; omega⟩ <;> simp [World.cell?, k1])
      have MP : Hid (Mp (w4.heap.size + 1) w5 (w4.heap.size + 1 + 1) (.slice (some ⟨w4.heap.size + 1, 0, none⟩) 1 1) [p.power]) := Lib.hid
        ⟨k3, by omega, ⟨rfl, .inr ⟨_, _, _, rfl, by omega, k2, by simp, by decide, by simp, by simp [flv]⟩⟩, by simp [Value.ownBlock]⟩
      have MN : Hid (Mn g w.heap.size w4.heap.size (w.heap.size + 1) (w.heap.size + 1 + 1) (some ⟨bp, op, none⟩)) := Lib.hid ⟨by omega, by omega, by omega, by omega, fun q hq => by cases hq; simp only; omega⟩
      have R2 : Hid (∀ k x : Nat, R'[k]? = some x → D[off2 + k]? = some x) := Lib.hid fun k x hk => by
        have q := RR.out.2.2 (k + 1) x (by simpa using hk)
        rcases HOF.out with e | ⟨e, _⟩
        · rw [e, show off + 1 + k = off + (k + 1) by omega]; exact q
        · have hl := (List.getElem?_eq_some_iff.1 hk).1
          have := RR.out.1
          simp at this; omega
      have RL : R'.length = N - 1 := by have := RR.out.1; simp at this; omega
      have RM : Hid (∀ x ∈ R', x < n) := Lib.hid fun x hx => RR.out.2.1 x (by simp [hx])
      have OD : off2 + (N - 1) ≤ D.length := by rcases HOF.out with e | ⟨e, e2⟩ <;> omega
      have I := Lib.hid (del_walk (w4.heap.size + 1) w.heap.size w4.heap.size (w.heap.size + 1) (w.heap.size + 1 + 1) (w4.heap.size + 1 + 1) (some ⟨bp, op, none⟩) n cap l p m s _ [p.power] g off2 (N - 1) (co - 1) D R' w5 MC.out MN.out MP.out (by simp; omega) M5.out.d (by omega) R2.out OD RL (fun x hx => by rw [HS.out.len]; exact RM.out x hx) (by omega) (by omega))
      have K1 := Lib.hid k1
      clear MP k1 k2 k3 htl
      refine I.out.mono ?_
      rintro e w6 ⟨rfl, dx⟩
      clear I
      obtain ⟨E, e1, e2, e3⟩ := dx.d
      obtain ⟨u6, q6⟩ := dx.p
      have F6 := Lib.hid dx.f
      have MC6 := Lib.hid (MC.out.gf MN.out dx.f)
      have DE := Lib.hid (And.intro e1 (And.intro e2 e3))
      have Q6 := Lib.hid q6
      have cq : w6.cell? ⟨w4.heap.size + 1 + 1, 0, none⟩ = some u6 := by have := q6.cp; simp [World.cell?, this]
      have cz := (Array.getElem?_eq_some_iff.1 q6.cp).1
      have oz : w4.heap.size < w6.heap.size := by have := dx.f.size; omega
      have J := Lib.hid (sums_walk (w4.heap.size + 1) u6 p.power ((nrs l p m s R').map (pw l)) w6 (by simpa using q6.own) (fun x hx => by
        rcases List.mem_cons.1 hx with rfl | hx
        · exact LP.out.power
        · obtain ⟨y, hy, rfl⟩ := List.mem_map.1 hx
          have hyl : y < l.length := by rw [HS.out.len]; exact RM.out y (List.mem_filter.1 hy).1
          have := HS.out.lt _ (List.mem_of_getElem? (getP hyl))
          exact this.power) (by rw [List.length_map]; have := nrs_le l p m s R'; omega))
      have K6 := Lib.hid ((dx.f.block w4.heap.size (by omega) (by omega)).trans K1.out)
      clear dx e1 e2 e3 q6 MC K1
      have NT := Lib.hid (show mergeL l m s n o = (T ++ [(i, p.power :: (nrs l p m s R').map (pw l))]) ++ mergeL l m s (f - 1) (nks l p m s R') by
        rw [TT.out.2]
        obtain ⟨f', rfl⟩ : ∃ f', f = f' + 1 := ⟨f - 1, by omega⟩
        rw [mergeL, gp, Nat.add_sub_cancel, List.append_assoc, show pw l i = p.power by unfold pw; rw [gp]]; rfl)
      go_wp2_with fail
      refine J.out.mono ?_
      rintro e w7 ⟨x, rfl, hx, hx64, b7⟩
      have k7 := (b7.block _ oz).trans K6.out
      have F7 := Lib.hid (((Gf.of (B5.out)).trans ⟨F6.out.os, F6.out.tape, F6.out.output, F6.out.size, fun k h1 h2 => F6.out.block k (by omega) h2⟩).trans (Gf.of (b7.mono (by omega)) : Gf wr.heap.size g w6 w7))
      have D7 := Lib.hid (DE.out.1.keep b7)
      have c7 : w7.cell? ⟨w4.heap.size, 2, none⟩ = some (.float .f64 p.power) := by simp [World.cell?, k7]
      have f7 : w7.frozen? ⟨w4.heap.size, 2, none⟩ = false := by simp [World.frozen?, k7]
      have l7 := (Array.getElem?_eq_some_iff.1 k7).1
      have K8 := Lib.hid (cells_set w7 w4.heap.size 2 (.float .f64 x) k7)
      have MQ := Lib.hid (show mtch l ⟨p.range, p.speed, x, p.bearing, p.time⟩ (i, p.power :: (nrs l p m s R').map (pw l)) from ⟨x, by simp only [gp], hx, by simpa using hx64⟩)
      clear J b7 k7 K6 hx hx64 cq cz oz
      go_upto_region 8 with fail
      obtain ⟨w8, hw8⟩ : ∃ y, y = w7.setCell ⟨w4.heap.size, 2, none⟩ (.float .f64 x) := ⟨_, rfl⟩
      have F8 := Lib.hid (show Gf wr.heap.size g wr w8 by rw [hw8]; exact F7.out.trans (Gf.of ((Below.refl _ _).setCell (by simp only; omega) _)))
      have D8 := Lib.hid (show Di w8 g E by
        rw [hw8]; unfold Di; rw [Deep.blk_setCell_other _ _ _ _ (by simp only; omega)]; exact D7.out)
      have k8 : w8.heap[w4.heap.size]? = some (.cells #[.float .f64 p.range, .float .f64 p.speed, .float .f64 x, .float .f64 p.bearing, .float .f64 p.time] 28 (0, 0)) := by rw [hw8, K8.out]; rfl
      rw [← hw8]
      clear hw8 K8 c7 f7 l7 F7 D7
      have l8 := (Array.getElem?_eq_some_iff.1 k8).1
      have d0 : w8.cell? ⟨w4.heap.size, 0, none⟩ = some (.float .f64 p.range) := by simp [World.cell?, k8]
      have d1 : w8.cell? ⟨w4.heap.size, 1, none⟩ = some (.float .f64 p.speed) := by simp [World.cell?, k8]
      have d2 : w8.cell? ⟨w4.heap.size, 2, none⟩ = some (.float .f64 x) := by simp [World.cell?, k8]
      have d3 : w8.cell? ⟨w4.heap.size, 3, none⟩ = some (.float .f64 p.bearing) := by simp [World.cell?, k8]
      have d4 : w8.cell? ⟨w4.heap.size, 4, none⟩ = some (.float .f64 p.time) := by simp [World.cell?, k8]
      have M8 := Lib.hid (ME.out.gf F8.out D8.out)
      have z8 := M8.out.sz
      have NKL := nks_le l p m s R'
      obtain ⟨I, Z, ti, tz, ts1, ty, tk⟩ := rs_info pt_info
      clear k8
      go_wp2_with (refine wpList_append_own_at _ rfl (.tmp 32) (.tmp 34) 47 rfl w1.heap.size 28 I Z 5 40 Try.undP ti tz ts1 ty tk (by decide) (.slice ao L.length cap8) L.length (plv L) rfl (M8.out.out.alloc _) ⟨w8.heap.size, 0, none⟩ 1 1 (ptv ⟨p.range, p.speed, x, p.bearing, p.time⟩) rfl rfl (mpt_cells (q := ⟨p.range, p.speed, x, p.bearing, p.time⟩) (Deep.blk_alloc_new w8 _)) (mpt_one _) (by simp only [maxLen]; omega) (by omega) (by simp; omega) ?_; intro v9 w9 ow gr _ _; have M9 := Lib.hid (M8.out.app ow gr); clear ow gr)
      go_roundw
      case rel => exact ⟨off2, (nks l p m s R').length, co - 1, f - 1, _, E, _, _, rfl, by omega, by omega, rfl, by omega, by have := DE.out.2.1; omega, fun y hy => RM.out y (List.mem_filter.1 hy).1, DE.out.2.2, TT.out.1.snoc MQ.out, NT.out, by rw [List.length_append, List.length_cons, List.length_nil]; omega, M9.out⟩
      case measure => simp only [sliceLen]; omega
    · obtain rfl : N = 0 := by omega
      have eR : R = [] := List.eq_nil_of_length_eq_zero RR.out.1
      subst eR
      have eT : mergeL l m s n o = T := by
        rw [TT.out.2]
        cases f <;> simp [mergeL]
      have ET := Lib.hid eT
      clear eT
      go_wp2_with fail
      go_ret
      exact ⟨_, L, rfl, row_low ME.out.out (by have := ME.out.gl; have := ME.out.gB; omega), by rw [ET.out]; exact TT.out.1, ME.out.b⟩
theorem merge_walk (a : Option Addr) (n cap : Nat) (l : List Pt) (o : List Nat) (m s : Nat) (w : World) (h : Sp w a n cap l) (hs : ∀ q, a = some q → q.block < w.heap.size) (ho : OrdOf a n cap l o) (hol : o.length = n) (hom : ∀ x ∈ o, x < n) (hn : n ≤ 1048575) :
    Calls Try.prog 23 #[.slice a n cap, .float .f64 m, .float .f64 s] w
      (fun e w' => ∃ v L, e = .returned v ∧ w'.ownsRow w.heap.size 28 5 v L.length (plv L) ∧ Ms l L (mergeL l m s n o) ∧ Below w.heap.size w w') :=
  merge_walk0 a n cap l o m s w h (fun q hq => .inl (hs q hq)) ho hol hom hn
end Go.Proofs.Ytdngkeefbpffcaa
