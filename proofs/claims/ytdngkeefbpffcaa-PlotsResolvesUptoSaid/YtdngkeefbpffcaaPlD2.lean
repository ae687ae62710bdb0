import Derived.Test.YtdngkeefbpffcaaPlC
import Derived.Test.YtdngkeefbpffcaaFlO
import Derived.Test.YtdngkeefbpffcaaFlP
set_option autoImplicit false
set_option linter.unusedVariables false
namespace Go.Proofs.Ytdngkeefbpffcaa
open Go.RowKit Lk Pl
/-- plots in memory -/
structure AtP (w : World) (b o : Nat) (p : Pt) : Prop where
  c0 : w.cell? ⟨b, o, none⟩ = some (.float .f64 p.range)
  c1 : w.cell? ⟨b, o + 1, none⟩ = some (.float .f64 p.speed)
  c2 : w.cell? ⟨b, o + 2, none⟩ = some (.float .f64 p.power)
  c3 : w.cell? ⟨b, o + 3, none⟩ = some (.float .f64 p.bearing)
  c4 : w.cell? ⟨b, o + 4, none⟩ = some (.float .f64 p.time)
theorem AtP.keep {w w' : World} {b o B : Nat} {p : Pt} (h : AtP w b o p) (hb : b < B) (hB : Below B w w') : AtP w' b o p :=
  ⟨(hB.cell (p := ⟨b, o, none⟩) hb).trans h.c0, (hB.cell (p := ⟨b, o + 1, none⟩) hb).trans h.c1, (hB.cell (p := ⟨b, o + 2, none⟩) hb).trans h.c2, (hB.cell (p := ⟨b, o + 3, none⟩) hb).trans h.c3, (hB.cell (p := ⟨b, o + 4, none⟩) hb).trans h.c4⟩
structure Sp (w : World) (a : Option Addr) (n cap : Nat) (l : List Pt) : Prop where
  len : l.length = n
  le : n ≤ cap
  small : cap ≤ 9223372036854775807
  lt : ∀ s ∈ l, PtLt s
  cells : n = 0 ∨ ∃ b off, a = some ⟨b, off, none⟩ ∧ b < w.heap.size ∧ ∀ j (h : j < l.length), AtP w b (off + j * 5) (l[j])
  nil : a = none → cap = 0
theorem Sp.keep {w w' : World} {a : Option Addr} {n cap : Nat} {l : List Pt} (h : Sp w a n cap l) (b : Below w.heap.size w w') : Sp w' a n cap l :=
  ⟨h.len, h.le, h.small, h.lt, h.cells.imp id fun ⟨g, off, ha, hg, hc⟩ => ⟨g, off, ha, Nat.lt_of_lt_of_le hg b.size, fun j hj => (hc j hj).keep hg b⟩, h.nil⟩
theorem Sp.at {w : World} {a : Option Addr} {n cap : Nat} {l : List Pt} (h : Sp w a n cap l) {k : Nat} (hk : k < n) :
    ∃ b off s, a = some ⟨b, off, none⟩ ∧ b < w.heap.size ∧ l[k]? = some s ∧ AtP w b (off + k * 5) s ∧ PtLt s := by
  rcases h.cells with h0 | ⟨b, off, ha, hb, hc⟩
  · omega
  · have hl : k < l.length := by rw [h.len]; exact hk
    exact ⟨b, off, l[k], ha, hb, List.getElem?_eq_getElem hl, hc k hl, h.lt _ (List.getElem_mem hl)⟩
theorem pv_inj {p q : Pt} (h : pv p = pv q) : p = q := by
  cases p; cases q; simp only [pv, Value.agg.injEq] at h; simpa using h
def TKy (f : FuncId) (args : Array Value) (u : Value) (w : World) : Prop := f = 40 → ∃ p, args = #[pv p] ∧ u = .agg (u64s (key p)).toArray
theorem tk_40 (p : Pt) (hp : PtLt p) (w : World) : Calls Try.prog 40 #[pv p] w (fun e w'' => ∃ u, e = .returned u ∧ TKy 40 #[pv p] u w'' ∧ Ext w w'') :=
  (key_walk p hp w).mono fun e w' ⟨he, hb⟩ => ⟨_, he, fun _ => ⟨p, rfl, rfl⟩, hb⟩
/-- the two boxes that the closure holds -/
structure Cl (w : World) (kf kl : Nat) (a : Option Addr) (n cap : Nat) (l : List Pt) : Prop where
  cf : w.cell? ⟨kf, 0, none⟩ = some (.func (.func 40) #[] #[])
  cl : w.cell? ⟨kl, 0, none⟩ = some (.slice a n cap)
  lf : kf < w.heap.size
  ll : kl < w.heap.size
  sp : Sp w a n cap l
theorem Cl.keep {w w' : World} {kf kl : Nat} {a : Option Addr} {n cap : Nat} {l : List Pt} (h : Cl w kf kl a n cap l) (b : Below w.heap.size w w') : Cl w' kf kl a n cap l :=
  ⟨(b.cell (p := ⟨kf, 0, none⟩) h.lf).trans h.cf, (b.cell (p := ⟨kl, 0, none⟩) h.ll).trans h.cl, Nat.lt_of_lt_of_le h.lf b.size, Nat.lt_of_lt_of_le h.ll b.size, h.sp.keep b⟩
def ordP (p q : Pt) : Int := cmpL (key p) (key q)
def TCm (C : Int) (f : FuncId) (args : Array Value) (u : Value) (w : World) : Prop := f = 65 → u = .int .i64 C
theorem uw_of {w : World} {g : Nat} {l : List Nat} (h : w.heap[g]? = some (.cells (u64s l).toArray 91 (0, 0))) : Uw w g l := by
  intro j x hj
  rw [cell_of_heap h j]
  unfold u64s
  rw [List.getElem?_toArray, List.getElem?_map, hj]; rfl

section
variable {P : Program} {ops : Array Oper} {md : Region.Mode} {J : World → Prop} {Q : Exit → Act → World → Prop}
theorem j_three {Q : Act → World → Prop} {fuel : Nat} {listed : Array Bool} {a : Act} {w : World} (i k m : Nat) (o u v : Oper) (hi : ops[i]? = some o) (hk : ops[k]? = some u) (hm : ops[m]? = some v) (hr : Region.ready md ops listed = [i, k, m]) (hw : J w)
    (h : wpList P ops (fun ex a' w' => ex = .normal ∧ J w' ∧ wpAnyJ P md ops J Q fuel (listed.setIfInBounds i true) a' w') [o] a w)
    (h2 : wpList P ops (fun ex a' w' => ex = .normal ∧ J w' ∧ wpAnyJ P md ops J Q fuel (listed.setIfInBounds k true) a' w') [u] a w)
    (h3 : wpList P ops (fun ex a' w' => ex = .normal ∧ J w' ∧ wpAnyJ P md ops J Q fuel (listed.setIfInBounds m true) a' w') [v] a w) : wpAnyJ P md ops J Q (fuel + 1) listed a w := by
  refine ⟨fun h0 => (by rw [hr] at h0; cases h0), fun j hj => ?_⟩
  rw [hr] at hj
  rcases List.mem_cons.1 hj with rfl | hj
  · exact jOp_of_list hi h
  · rcases List.mem_cons.1 hj with rfl | hj
    · exact jOp_of_list hk h2
    · rw [List.mem_singleton.1 hj]
      exact jOp_of_list hm h3
end
/-- a new block of five words -/
def Nw (w : World) (g : Nat) : Prop := w.heap[g]? = some (.cells #[.int .u64 0, .int .u64 0, .int .u64 0, .int .u64 0, .int .u64 0] 91 (0, 0))
theorem Nw.lt {w : World} {g : Nat} (h : Nw w g) : g < w.heap.size := (Array.getElem?_eq_some_iff.1 h).1
theorem Nw.keep {w w' : World} {g : Nat} (h : Nw w g) (b : Below w.heap.size w w') : Nw w' g := (b.block _ h.lt).trans h
theorem Nw.new (w : World) : Nw (w.alloc (.cells #[.int .u64 0, .int .u64 0, .int .u64 0, .int .u64 0, .int .u64 0] 91)) w.heap.size := Deep.blk_alloc_new _ _
theorem Nw.old {w : World} {g : Nat} (h : Nw w g) (o : Obj) : Nw (w.alloc o) g := h.keep ((Below.refl _ w).alloc (Nat.le_refl _) o)
theorem one_u64s (l : List Nat) : (u64s l).toArray.all (·.oneCell') = true := by unfold u64s; simp [Value.oneCell']
theorem szN (w : World) (o : Obj) : (w.alloc o).heap.size = w.heap.size + 1 := by show (w.heap.push o).size = _; simp
theorem uw_put {w2 : World} {g : Nat} {l : List Nat} (hl : l.length = 5) (h : w2.heap[g]? = some (.cells (putAll #[.int .u64 0, .int .u64 0, .int .u64 0, .int .u64 0, .int .u64 0] 0 (u64s l)) 91 (0, 0))) : Uw w2 g l := by
  rw [putAll_full (by unfold u64s; rw [List.length_map, hl]; rfl)] at h
  exact uw_of h
def UwB (w : World) (g : Nat) (l : List Nat) : Prop := Uw w g l ∧ g < w.heap.size
theorem Uw.block {w w' : World} {g : Nat} {l : List Nat} (h : Uw w g l) (e : w'.heap[g]? = w.heap[g]?) : Uw w' g l := by
  intro j x hj
  have := h j x hj
  unfold World.cell? at this ⊢
  rw [e]; exact this
set_option maxHeartbeats 4000000 in
theorem closure_walk (kf kl : Nat) (a : Option Addr) (n cap : Nat) (l : List Pt) (i j : Nat) (p q : Pt) (w : World) (h : Cl w kf kl a n cap l) (hi : l[i]? = some p) (hj : l[j]? = some q) :
    Calls Try.prog 64 #[.int .i64 i, .int .i64 j, .pointer (some ⟨kf, 0, none⟩), .pointer (some ⟨kl, 0, none⟩)] w (fun e w' => e = .returned (.int .i64 (ordP p q)) ∧ Below w.heap.size w w') := by
  have hcf : ∀ (args : Array Value) (w : World), (callFunc 40 args).run Try.prog w = .ok (.enter 40 args) w := fun _ _ => by kernel_rfl
  have li : i < n := by rw [← h.sp.len]; exact (List.getElem?_eq_some_iff.1 hi).1
  have lj : j < n := by rw [← h.sp.len]; exact (List.getElem?_eq_some_iff.1 hj).1
  have n63 := Nat.le_trans h.sp.le h.sp.small
  obtain ⟨b, off, p', rfl, hb, hp', ⟨p0, p1, p2, p3, p4⟩, ltp⟩ := h.sp.at li
  obtain rfl : p = p' := by rw [hi] at hp'; exact Option.some.inj hp'
  obtain ⟨b', off', q', e, hb', hq', ⟨q0, q1, q2, q3, q4⟩, ltq⟩ := h.sp.at lj
  obtain ⟨rfl, rfl⟩ : b = b' ∧ off = off' := by simpa using e
  obtain rfl : q = q' := by rw [hj] at hq'; exact Option.some.inj hq'
  have c1 := h.cf
  have c2 := h.cl
  have l1 := h.lf
  have l2 := h.ll
  have HP := Lib.hid ltp
  have HQ := Lib.hid ltq
  have i1 : (i : Int) < n := by omega
  have j1 : (j : Int) < n := by omega
  clear e hi hj hp' hq' ltp ltq h
  go_enter Try.func64, Try.ntmps64
  go_upto_region 1 with fail
  go_cut [7, 8] (fun s7 s8 wx => ∃ g7 g8 : Nat, s7 = .pointer (some ⟨g7, 0, none⟩) ∧ s8 = .pointer (some ⟨g8, 0, none⟩) ∧ UwB wx g7 (key p) ∧ UwB wx g8 (key q) ∧ Below w.heap.size w wx)
  case first =>
    refine wp_region_J 16 (fun x => Below w.heap.size w x) (by kernel_rfl) rfl (by kernel_rfl) ((Below.refl _ w).drew) (fun wj hJ hs => ?_)
    have HJ := Lib.hid hJ
    clear hJ
    (refine j_take 0 _ ?_ hs rfl rfl (by kernel_rfl) (by kernel_rfl) HJ.out (fun w' hw' => ?_) ?_; rotate_left; (· (have hc := fun b o h => Below.cell hw' (p := ⟨b, o, none⟩) h); go_simp; rfl); (go_simp))
    (refine j_take 1 _ ?_ hs rfl rfl (by kernel_rfl) (by kernel_rfl) HJ.out (fun w' hw' => ?_) ?_; rotate_left; (· (have hc := fun b o h => Below.cell hw' (p := ⟨b, o, none⟩) h); go_simp; rfl); (go_simp))
    (refine j_take 2 _ ?_ hs rfl rfl (by kernel_rfl) (by kernel_rfl) HJ.out (fun w' hw' => ?_) ?_; rotate_left; (· (have hc := fun b o h => Below.cell hw' (p := ⟨b, o, none⟩) h); go_simp; rfl); (go_simp))
    (refine j_take 3 _ ?_ hs rfl rfl (by kernel_rfl) (by kernel_rfl) HJ.out (fun w' hw' => ?_) ?_; rotate_left; (· (have hc := fun b o h => Below.cell hw' (p := ⟨b, o, none⟩) h); go_simp; rfl); (go_simp))
    (refine j_take 4 _ ?_ hs rfl rfl (by kernel_rfl) (by kernel_rfl) HJ.out (fun w' hw' => ?_) ?_; rotate_left; (· (have hc := fun b o h => Below.cell hw' (p := ⟨b, o, none⟩) h); go_simp; rfl); (go_simp))
    (refine j_take 6 _ ?_ hs rfl rfl (by kernel_rfl) (by kernel_rfl) HJ.out (fun w' hw' => ?_) ?_; rotate_left; (· (have hc := fun b o h => Below.cell hw' (p := ⟨b, o, none⟩) h); go_simp; rfl); (go_simp))
    (refine j_take 7 _ ?_ hs rfl rfl (by kernel_rfl) (by kernel_rfl) HJ.out (fun w' hw' => ?_) ?_; rotate_left; (· (have hc := fun b o h => Below.cell hw' (p := ⟨b, o, none⟩) h); go_simp; rfl); (go_simp))
    (refine j_take 8 _ ?_ hs rfl rfl (by kernel_rfl) (by kernel_rfl) HJ.out (fun w' hw' => ?_) ?_; rotate_left; (· (have hc := fun b o h => Below.cell hw' (p := ⟨b, o, none⟩) h); go_simp; rfl); (go_simp))
    (refine j_take 9 _ ?_ hs rfl rfl (by kernel_rfl) (by kernel_rfl) HJ.out (fun w' hw' => ?_) ?_; rotate_left; (· (have hc := fun b o h => Below.cell hw' (p := ⟨b, o, none⟩) h); go_simp; rfl); (go_simp))
    (refine j_take 10 _ ?_ hs rfl rfl (by kernel_rfl) (by kernel_rfl) HJ.out (fun w' hw' => ?_) ?_; rotate_left; (· (have hc := fun b o h => Below.cell hw' (p := ⟨b, o, none⟩) h); go_simp; rfl); (go_simp))
    clear p0 p1 p2 p3 p4 q0 q1 q2 q3 q4 c1 c2
    refine j_three 5 12 13 _ _ _ rfl rfl rfl (by kernel_rfl) HJ.out ?_ ?_ ?_ 
    · go_wp2_with fail
      refine (key_walk p HP.out _).mono ?_
      rintro e v1 ⟨rfl, hb⟩
      have HJ := Lib.hid (Below.trans HJ.out (hb.mono HJ.out.size))
      clear hb
      go_wp2_with fail
      refine ⟨HJ.out, ?_⟩
      refine j_three 11 12 13 _ _ _ rfl rfl rfl (by kernel_rfl) HJ.out ?_ ?_ ?_ 
      · go_wp2_with fail
        refine (key_walk q HQ.out _).mono ?_
        rintro e v2 ⟨rfl, hb⟩
        have HJ := Lib.hid (Below.trans HJ.out (hb.mono HJ.out.size))
        clear hb
        go_wp2_with fail
        refine ⟨HJ.out, ?_⟩
        refine j_two 12 13 _ _ rfl rfl (by kernel_rfl) HJ.out ?_ ?_ 
        · go_wp2_with fail
          have N12 := Lib.hid (Nw.new v2)
          have hgj12 := HJ.out.size
          have HJ := Lib.hid (HJ.out.alloc hgj12 (.cells #[.int .u64 0, .int .u64 0, .int .u64 0, .int .u64 0, .int .u64 0] 91))
          refine ⟨HJ.out, ?_⟩
          obtain ⟨v3, hv3⟩ : ∃ v, v = (v2.alloc (.cells #[.int .u64 0, .int .u64 0, .int .u64 0, .int .u64 0, .int .u64 0] 91)) := ⟨_, rfl⟩
          rw [← hv3] at HJ ⊢
          rw [← hv3] at N12
          clear hv3
          refine j_one 13 _ rfl (by kernel_rfl) HJ.out ?_ 
          go_wp2_with fail
          have N13 := Lib.hid (Nw.new v3)
          have hgj13 := HJ.out.size
          have lt13 : v2.heap.size < v3.heap.size := N12.out.lt
          have N12 := Lib.hid (N12.out.old (.cells #[.int .u64 0, .int .u64 0, .int .u64 0, .int .u64 0, .int .u64 0] 91))
          have HJ := Lib.hid (HJ.out.alloc hgj13 (.cells #[.int .u64 0, .int .u64 0, .int .u64 0, .int .u64 0, .int .u64 0] 91))
          refine ⟨HJ.out, ?_⟩
          obtain ⟨v4, hv4⟩ : ∃ v, v = (v3.alloc (.cells #[.int .u64 0, .int .u64 0, .int .u64 0, .int .u64 0, .int .u64 0] 91)) := ⟨_, rfl⟩
          rw [← hv4] at HJ ⊢
          rw [← hv4] at N12
          rw [← hv4] at N13
          clear hv4
          refine j_one 14 _ rfl (by kernel_rfl) HJ.out ?_
          have b7 : v4.heap[v2.heap.size]? = some (.cells #[.int .u64 0, .int .u64 0, .int .u64 0, .int .u64 0, .int .u64 0] 91 (0, 0)) := N12.out
          refine wpList_store_at rfl rfl (g := v2.heap.size) (j := 0) rfl rfl b7 (by kernel_rfl) (Nat.le_of_ble_eq_true rfl) (one_u64s _) ?_
          intro y4 u7 o7
          have U7 : Hid (Uw y4 (v2.heap.size) (key p)) := Lib.hid (uw_put rfl u7)
          have hz : v2.heap.size ≠ v3.heap.size := by omega
          have HJ := Lib.hid (Below.trans HJ.out (o7.below (by omega)))
          have b8 : y4.heap[v3.heap.size]? = some (.cells #[.int .u64 0, .int .u64 0, .int .u64 0, .int .u64 0, .int .u64 0] 91 (0, 0)) := (o7.block _ (by omega)).trans N13.out
          have z7 : v2.heap.size < y4.heap.size := (Array.getElem?_eq_some_iff.1 u7).1
          clear u7 o7 b7
          refine ⟨rfl, HJ.out, ?_⟩
          refine j_one 15 _ rfl (by kernel_rfl) HJ.out ?_
          refine wpList_store_at rfl rfl (g := v3.heap.size) (j := 0) rfl rfl b8 (by kernel_rfl) (Nat.le_of_ble_eq_true rfl) (one_u64s _) ?_
          intro x4 u8 o8
          have U8 : Hid (Uw x4 (v3.heap.size) (key q)) := Lib.hid (uw_put rfl u8)
          have U7 : Hid (Uw x4 (v2.heap.size) (key p)) := Lib.hid (U7.out.block (o8.block _ (by omega)))
          have z8 : v3.heap.size < x4.heap.size := (Array.getElem?_eq_some_iff.1 u8).1
          have z7 : v2.heap.size < x4.heap.size := by rw [o8.size]; exact z7
          have HJ := Lib.hid (Below.trans HJ.out (o8.below (by omega)))
          clear u8 o8 b8
          refine ⟨rfl, HJ.out, j_done (by kernel_rfl) ?_⟩
          go_wp2_with fail
          go_meet
          exact ⟨_, _, rfl, rfl, ⟨U7.out, z7⟩, ⟨U8.out, z8⟩, HJ.out⟩
        · go_wp2_with fail
          have N13 := Lib.hid (Nw.new v2)
          have hgj13 := HJ.out.size
          have HJ := Lib.hid (HJ.out.alloc hgj13 (.cells #[.int .u64 0, .int .u64 0, .int .u64 0, .int .u64 0, .int .u64 0] 91))
          refine ⟨HJ.out, ?_⟩
          obtain ⟨v6, hv6⟩ : ∃ v, v = (v2.alloc (.cells #[.int .u64 0, .int .u64 0, .int .u64 0, .int .u64 0, .int .u64 0] 91)) := ⟨_, rfl⟩
          rw [← hv6] at HJ ⊢
          rw [← hv6] at N13
          clear hv6
          refine j_one 12 _ rfl (by kernel_rfl) HJ.out ?_ 
          go_wp2_with fail
          have N12 := Lib.hid (Nw.new v6)
          have hgj12 := HJ.out.size
          have lt12 : v2.heap.size < v6.heap.size := N13.out.lt
          have N13 := Lib.hid (N13.out.old (.cells #[.int .u64 0, .int .u64 0, .int .u64 0, .int .u64 0, .int .u64 0] 91))
          have HJ := Lib.hid (HJ.out.alloc hgj12 (.cells #[.int .u64 0, .int .u64 0, .int .u64 0, .int .u64 0, .int .u64 0] 91))
          refine ⟨HJ.out, ?_⟩
          obtain ⟨v7, hv7⟩ : ∃ v, v = (v6.alloc (.cells #[.int .u64 0, .int .u64 0, .int .u64 0, .int .u64 0, .int .u64 0] 91)) := ⟨_, rfl⟩
          rw [← hv7] at HJ ⊢
          rw [← hv7] at N13
          rw [← hv7] at N12
          clear hv7
          refine j_one 14 _ rfl (by kernel_rfl) HJ.out ?_
          have b7 : v7.heap[v6.heap.size]? = some (.cells #[.int .u64 0, .int .u64 0, .int .u64 0, .int .u64 0, .int .u64 0] 91 (0, 0)) := N12.out
          refine wpList_store_at rfl rfl (g := v6.heap.size) (j := 0) rfl rfl b7 (by kernel_rfl) (Nat.le_of_ble_eq_true rfl) (one_u64s _) ?_
          intro y7 u7 o7
          have U7 : Hid (Uw y7 (v6.heap.size) (key p)) := Lib.hid (uw_put rfl u7)
          have hz : v6.heap.size ≠ v2.heap.size := by omega
          have HJ := Lib.hid (Below.trans HJ.out (o7.below (by omega)))
          have b8 : y7.heap[v2.heap.size]? = some (.cells #[.int .u64 0, .int .u64 0, .int .u64 0, .int .u64 0, .int .u64 0] 91 (0, 0)) := (o7.block _ (by omega)).trans N13.out
          have z7 : v6.heap.size < y7.heap.size := (Array.getElem?_eq_some_iff.1 u7).1
          clear u7 o7 b7
          refine ⟨rfl, HJ.out, ?_⟩
          refine j_one 15 _ rfl (by kernel_rfl) HJ.out ?_
          refine wpList_store_at rfl rfl (g := v2.heap.size) (j := 0) rfl rfl b8 (by kernel_rfl) (Nat.le_of_ble_eq_true rfl) (one_u64s _) ?_
          intro x7 u8 o8
          have U8 : Hid (Uw x7 (v2.heap.size) (key q)) := Lib.hid (uw_put rfl u8)
          have U7 : Hid (Uw x7 (v6.heap.size) (key p)) := Lib.hid (U7.out.block (o8.block _ (by omega)))
          have z8 : v2.heap.size < x7.heap.size := (Array.getElem?_eq_some_iff.1 u8).1
          have z7 : v6.heap.size < x7.heap.size := by rw [o8.size]; exact z7
          have HJ := Lib.hid (Below.trans HJ.out (o8.below (by omega)))
          clear u8 o8 b8
          refine ⟨rfl, HJ.out, j_done (by kernel_rfl) ?_⟩
          go_wp2_with fail
          go_meet
          exact ⟨_, _, rfl, rfl, ⟨U7.out, z7⟩, ⟨U8.out, z8⟩, HJ.out⟩
      · go_wp2_with fail
        have N12 := Lib.hid (Nw.new v1)
        have hgj12 := HJ.out.size
        have HJ := Lib.hid (HJ.out.alloc hgj12 (.cells #[.int .u64 0, .int .u64 0, .int .u64 0, .int .u64 0, .int .u64 0] 91))
        refine ⟨HJ.out, ?_⟩
        obtain ⟨v9, hv9⟩ : ∃ v, v = (v1.alloc (.cells #[.int .u64 0, .int .u64 0, .int .u64 0, .int .u64 0, .int .u64 0] 91)) := ⟨_, rfl⟩
        rw [← hv9] at HJ ⊢
        rw [← hv9] at N12
        clear hv9
        refine j_two 11 13 _ _ rfl rfl (by kernel_rfl) HJ.out ?_ ?_ 
        · go_wp2_with fail
          refine (key_walk q HQ.out _).mono ?_
          rintro e v10 ⟨rfl, hb⟩
          have HJ := Lib.hid (Below.trans HJ.out (hb.mono HJ.out.size))
          have N12 := Lib.hid (N12.out.keep hb)
          clear hb
          go_wp2_with fail
          refine ⟨HJ.out, ?_⟩
          refine j_one 13 _ rfl (by kernel_rfl) HJ.out ?_ 
          go_wp2_with fail
          have N13 := Lib.hid (Nw.new v10)
          have hgj13 := HJ.out.size
          have lt13 : v1.heap.size < v10.heap.size := N12.out.lt
          have N12 := Lib.hid (N12.out.old (.cells #[.int .u64 0, .int .u64 0, .int .u64 0, .int .u64 0, .int .u64 0] 91))
          have HJ := Lib.hid (HJ.out.alloc hgj13 (.cells #[.int .u64 0, .int .u64 0, .int .u64 0, .int .u64 0, .int .u64 0] 91))
          refine ⟨HJ.out, ?_⟩
          obtain ⟨v11, hv11⟩ : ∃ v, v = (v10.alloc (.cells #[.int .u64 0, .int .u64 0, .int .u64 0, .int .u64 0, .int .u64 0] 91)) := ⟨_, rfl⟩
          rw [← hv11] at HJ ⊢
          rw [← hv11] at N12
          rw [← hv11] at N13
          clear hv11
          refine j_one 14 _ rfl (by kernel_rfl) HJ.out ?_
          have b7 : v11.heap[v1.heap.size]? = some (.cells #[.int .u64 0, .int .u64 0, .int .u64 0, .int .u64 0, .int .u64 0] 91 (0, 0)) := N12.out
          refine wpList_store_at rfl rfl (g := v1.heap.size) (j := 0) rfl rfl b7 (by kernel_rfl) (Nat.le_of_ble_eq_true rfl) (one_u64s _) ?_
          intro y11 u7 o7
          have U7 : Hid (Uw y11 (v1.heap.size) (key p)) := Lib.hid (uw_put rfl u7)
          have hz : v1.heap.size ≠ v10.heap.size := by omega
          have HJ := Lib.hid (Below.trans HJ.out (o7.below (by omega)))
          have b8 : y11.heap[v10.heap.size]? = some (.cells #[.int .u64 0, .int .u64 0, .int .u64 0, .int .u64 0, .int .u64 0] 91 (0, 0)) := (o7.block _ (by omega)).trans N13.out
          have z7 : v1.heap.size < y11.heap.size := (Array.getElem?_eq_some_iff.1 u7).1
          clear u7 o7 b7
          refine ⟨rfl, HJ.out, ?_⟩
          refine j_one 15 _ rfl (by kernel_rfl) HJ.out ?_
          refine wpList_store_at rfl rfl (g := v10.heap.size) (j := 0) rfl rfl b8 (by kernel_rfl) (Nat.le_of_ble_eq_true rfl) (one_u64s _) ?_
          intro x11 u8 o8
          have U8 : Hid (Uw x11 (v10.heap.size) (key q)) := Lib.hid (uw_put rfl u8)
          have U7 : Hid (Uw x11 (v1.heap.size) (key p)) := Lib.hid (U7.out.block (o8.block _ (by omega)))
          have z8 : v10.heap.size < x11.heap.size := (Array.getElem?_eq_some_iff.1 u8).1
          have z7 : v1.heap.size < x11.heap.size := by rw [o8.size]; exact z7
          have HJ := Lib.hid (Below.trans HJ.out (o8.below (by omega)))
          clear u8 o8 b8
          refine ⟨rfl, HJ.out, j_done (by kernel_rfl) ?_⟩
          go_wp2_with fail
          go_meet
          exact ⟨_, _, rfl, rfl, ⟨U7.out, z7⟩, ⟨U8.out, z8⟩, HJ.out⟩
        · go_wp2_with fail
          have N13 := Lib.hid (Nw.new v9)
          have hgj13 := HJ.out.size
          have lt13 : v1.heap.size < v9.heap.size := N12.out.lt
          have N12 := Lib.hid (N12.out.old (.cells #[.int .u64 0, .int .u64 0, .int .u64 0, .int .u64 0, .int .u64 0] 91))
          have HJ := Lib.hid (HJ.out.alloc hgj13 (.cells #[.int .u64 0, .int .u64 0, .int .u64 0, .int .u64 0, .int .u64 0] 91))
          refine ⟨HJ.out, ?_⟩
          obtain ⟨v13, hv13⟩ : ∃ v, v = (v9.alloc (.cells #[.int .u64 0, .int .u64 0, .int .u64 0, .int .u64 0, .int .u64 0] 91)) := ⟨_, rfl⟩
          rw [← hv13] at HJ ⊢
          rw [← hv13] at N12
          rw [← hv13] at N13
          clear hv13
          refine j_one 11 _ rfl (by kernel_rfl) HJ.out ?_ 
          go_wp2_with fail
          refine (key_walk q HQ.out _).mono ?_
          rintro e v14 ⟨rfl, hb⟩
          have HJ := Lib.hid (Below.trans HJ.out (hb.mono HJ.out.size))
          have N12 := Lib.hid (N12.out.keep hb)
          have N13 := Lib.hid (N13.out.keep hb)
          clear hb
          go_wp2_with fail
          refine ⟨HJ.out, ?_⟩
          refine j_one 14 _ rfl (by kernel_rfl) HJ.out ?_
          have b7 : v14.heap[v1.heap.size]? = some (.cells #[.int .u64 0, .int .u64 0, .int .u64 0, .int .u64 0, .int .u64 0] 91 (0, 0)) := N12.out
          refine wpList_store_at rfl rfl (g := v1.heap.size) (j := 0) rfl rfl b7 (by kernel_rfl) (Nat.le_of_ble_eq_true rfl) (one_u64s _) ?_
          intro y14 u7 o7
          have U7 : Hid (Uw y14 (v1.heap.size) (key p)) := Lib.hid (uw_put rfl u7)
          have hz : v1.heap.size ≠ v9.heap.size := by omega
          have HJ := Lib.hid (Below.trans HJ.out (o7.below (by omega)))
          have b8 : y14.heap[v9.heap.size]? = some (.cells #[.int .u64 0, .int .u64 0, .int .u64 0, .int .u64 0, .int .u64 0] 91 (0, 0)) := (o7.block _ (by omega)).trans N13.out
          have z7 : v1.heap.size < y14.heap.size := (Array.getElem?_eq_some_iff.1 u7).1
          clear u7 o7 b7
          refine ⟨rfl, HJ.out, ?_⟩
          refine j_one 15 _ rfl (by kernel_rfl) HJ.out ?_
          refine wpList_store_at rfl rfl (g := v9.heap.size) (j := 0) rfl rfl b8 (by kernel_rfl) (Nat.le_of_ble_eq_true rfl) (one_u64s _) ?_
          intro x14 u8 o8
          have U8 : Hid (Uw x14 (v9.heap.size) (key q)) := Lib.hid (uw_put rfl u8)
          have U7 : Hid (Uw x14 (v1.heap.size) (key p)) := Lib.hid (U7.out.block (o8.block _ (by omega)))
          have z8 : v9.heap.size < x14.heap.size := (Array.getElem?_eq_some_iff.1 u8).1
          have z7 : v1.heap.size < x14.heap.size := by rw [o8.size]; exact z7
          have HJ := Lib.hid (Below.trans HJ.out (o8.below (by omega)))
          clear u8 o8 b8
          refine ⟨rfl, HJ.out, j_done (by kernel_rfl) ?_⟩
          go_wp2_with fail
          go_meet
          exact ⟨_, _, rfl, rfl, ⟨U7.out, z7⟩, ⟨U8.out, z8⟩, HJ.out⟩
      · go_wp2_with fail
        have N13 := Lib.hid (Nw.new v1)
        have hgj13 := HJ.out.size
        have HJ := Lib.hid (HJ.out.alloc hgj13 (.cells #[.int .u64 0, .int .u64 0, .int .u64 0, .int .u64 0, .int .u64 0] 91))
        refine ⟨HJ.out, ?_⟩
        obtain ⟨v16, hv16⟩ : ∃ v, v = (v1.alloc (.cells #[.int .u64 0, .int .u64 0, .int .u64 0, .int .u64 0, .int .u64 0] 91)) := ⟨_, rfl⟩
        rw [← hv16] at HJ ⊢
        rw [← hv16] at N13
        clear hv16
        refine j_two 11 12 _ _ rfl rfl (by kernel_rfl) HJ.out ?_ ?_ 
        · go_wp2_with fail
          refine (key_walk q HQ.out _).mono ?_
          rintro e v17 ⟨rfl, hb⟩
          have HJ := Lib.hid (Below.trans HJ.out (hb.mono HJ.out.size))
          have N13 := Lib.hid (N13.out.keep hb)
          clear hb
          go_wp2_with fail
          refine ⟨HJ.out, ?_⟩
          refine j_one 12 _ rfl (by kernel_rfl) HJ.out ?_ 
          go_wp2_with fail
          have N12 := Lib.hid (Nw.new v17)
          have hgj12 := HJ.out.size
          have lt12 : v1.heap.size < v17.heap.size := N13.out.lt
          have N13 := Lib.hid (N13.out.old (.cells #[.int .u64 0, .int .u64 0, .int .u64 0, .int .u64 0, .int .u64 0] 91))
          have HJ := Lib.hid (HJ.out.alloc hgj12 (.cells #[.int .u64 0, .int .u64 0, .int .u64 0, .int .u64 0, .int .u64 0] 91))
          refine ⟨HJ.out, ?_⟩
          obtain ⟨v18, hv18⟩ : ∃ v, v = (v17.alloc (.cells #[.int .u64 0, .int .u64 0, .int .u64 0, .int .u64 0, .int .u64 0] 91)) := ⟨_, rfl⟩
          rw [← hv18] at HJ ⊢
          rw [← hv18] at N13
          rw [← hv18] at N12
          clear hv18
          refine j_one 14 _ rfl (by kernel_rfl) HJ.out ?_
          have b7 : v18.heap[v17.heap.size]? = some (.cells #[.int .u64 0, .int .u64 0, .int .u64 0, .int .u64 0, .int .u64 0] 91 (0, 0)) := N12.out
          refine wpList_store_at rfl rfl (g := v17.heap.size) (j := 0) rfl rfl b7 (by kernel_rfl) (Nat.le_of_ble_eq_true rfl) (one_u64s _) ?_
          intro y18 u7 o7
          have U7 : Hid (Uw y18 (v17.heap.size) (key p)) := Lib.hid (uw_put rfl u7)
          have hz : v17.heap.size ≠ v1.heap.size := by omega
          have HJ := Lib.hid (Below.trans HJ.out (o7.below (by omega)))
          have b8 : y18.heap[v1.heap.size]? = some (.cells #[.int .u64 0, .int .u64 0, .int .u64 0, .int .u64 0, .int .u64 0] 91 (0, 0)) := (o7.block _ (by omega)).trans N13.out
          have z7 : v17.heap.size < y18.heap.size := (Array.getElem?_eq_some_iff.1 u7).1
          clear u7 o7 b7
          refine ⟨rfl, HJ.out, ?_⟩
          refine j_one 15 _ rfl (by kernel_rfl) HJ.out ?_
          refine wpList_store_at rfl rfl (g := v1.heap.size) (j := 0) rfl rfl b8 (by kernel_rfl) (Nat.le_of_ble_eq_true rfl) (one_u64s _) ?_
          intro x18 u8 o8
          have U8 : Hid (Uw x18 (v1.heap.size) (key q)) := Lib.hid (uw_put rfl u8)
          have U7 : Hid (Uw x18 (v17.heap.size) (key p)) := Lib.hid (U7.out.block (o8.block _ (by omega)))
          have z8 : v1.heap.size < x18.heap.size := (Array.getElem?_eq_some_iff.1 u8).1
          have z7 : v17.heap.size < x18.heap.size := by rw [o8.size]; exact z7
          have HJ := Lib.hid (Below.trans HJ.out (o8.below (by omega)))
          clear u8 o8 b8
          refine ⟨rfl, HJ.out, j_done (by kernel_rfl) ?_⟩
          go_wp2_with fail
          go_meet
          exact ⟨_, _, rfl, rfl, ⟨U7.out, z7⟩, ⟨U8.out, z8⟩, HJ.out⟩
        · go_wp2_with fail
          have N12 := Lib.hid (Nw.new v16)
          have hgj12 := HJ.out.size
          have lt12 : v1.heap.size < v16.heap.size := N13.out.lt
          have N13 := Lib.hid (N13.out.old (.cells #[.int .u64 0, .int .u64 0, .int .u64 0, .int .u64 0, .int .u64 0] 91))
          have HJ := Lib.hid (HJ.out.alloc hgj12 (.cells #[.int .u64 0, .int .u64 0, .int .u64 0, .int .u64 0, .int .u64 0] 91))
          refine ⟨HJ.out, ?_⟩
          obtain ⟨v20, hv20⟩ : ∃ v, v = (v16.alloc (.cells #[.int .u64 0, .int .u64 0, .int .u64 0, .int .u64 0, .int .u64 0] 91)) := ⟨_, rfl⟩
          rw [← hv20] at HJ ⊢
          rw [← hv20] at N13
          rw [← hv20] at N12
          clear hv20
          refine j_one 11 _ rfl (by kernel_rfl) HJ.out ?_ 
          go_wp2_with fail
          refine (key_walk q HQ.out _).mono ?_
          rintro e v21 ⟨rfl, hb⟩
          have HJ := Lib.hid (Below.trans HJ.out (hb.mono HJ.out.size))
          have N13 := Lib.hid (N13.out.keep hb)
          have N12 := Lib.hid (N12.out.keep hb)
          clear hb
          go_wp2_with fail
          refine ⟨HJ.out, ?_⟩
          refine j_one 14 _ rfl (by kernel_rfl) HJ.out ?_
          have b7 : v21.heap[v16.heap.size]? = some (.cells #[.int .u64 0, .int .u64 0, .int .u64 0, .int .u64 0, .int .u64 0] 91 (0, 0)) := N12.out
          refine wpList_store_at rfl rfl (g := v16.heap.size) (j := 0) rfl rfl b7 (by kernel_rfl) (Nat.le_of_ble_eq_true rfl) (one_u64s _) ?_
          intro y21 u7 o7
          have U7 : Hid (Uw y21 (v16.heap.size) (key p)) := Lib.hid (uw_put rfl u7)
          have hz : v16.heap.size ≠ v1.heap.size := by omega
          have HJ := Lib.hid (Below.trans HJ.out (o7.below (by omega)))
          have b8 : y21.heap[v1.heap.size]? = some (.cells #[.int .u64 0, .int .u64 0, .int .u64 0, .int .u64 0, .int .u64 0] 91 (0, 0)) := (o7.block _ (by omega)).trans N13.out
          have z7 : v16.heap.size < y21.heap.size := (Array.getElem?_eq_some_iff.1 u7).1
          clear u7 o7 b7
          refine ⟨rfl, HJ.out, ?_⟩
          refine j_one 15 _ rfl (by kernel_rfl) HJ.out ?_
          refine wpList_store_at rfl rfl (g := v1.heap.size) (j := 0) rfl rfl b8 (by kernel_rfl) (Nat.le_of_ble_eq_true rfl) (one_u64s _) ?_
          intro x21 u8 o8
          have U8 : Hid (Uw x21 (v1.heap.size) (key q)) := Lib.hid (uw_put rfl u8)
          have U7 : Hid (Uw x21 (v16.heap.size) (key p)) := Lib.hid (U7.out.block (o8.block _ (by omega)))
          have z8 : v1.heap.size < x21.heap.size := (Array.getElem?_eq_some_iff.1 u8).1
          have z7 : v16.heap.size < x21.heap.size := by rw [o8.size]; exact z7
          have HJ := Lib.hid (Below.trans HJ.out (o8.below (by omega)))
          clear u8 o8 b8
          refine ⟨rfl, HJ.out, j_done (by kernel_rfl) ?_⟩
          go_wp2_with fail
          go_meet
          exact ⟨_, _, rfl, rfl, ⟨U7.out, z7⟩, ⟨U8.out, z8⟩, HJ.out⟩
    · go_wp2_with fail
      have N12 := Lib.hid (Nw.new wj)
      have hgj12 := HJ.out.size
      have HJ := Lib.hid (HJ.out.alloc hgj12 (.cells #[.int .u64 0, .int .u64 0, .int .u64 0, .int .u64 0, .int .u64 0] 91))
      refine ⟨HJ.out, ?_⟩
      obtain ⟨v23, hv23⟩ : ∃ v, v = (wj.alloc (.cells #[.int .u64 0, .int .u64 0, .int .u64 0, .int .u64 0, .int .u64 0] 91)) := ⟨_, rfl⟩
      rw [← hv23] at HJ ⊢
      rw [← hv23] at N12
      clear hv23
      refine j_two 5 13 _ _ rfl rfl (by kernel_rfl) HJ.out ?_ ?_ 
      · go_wp2_with fail
        refine (key_walk p HP.out _).mono ?_
        rintro e v24 ⟨rfl, hb⟩
        have HJ := Lib.hid (Below.trans HJ.out (hb.mono HJ.out.size))
        have N12 := Lib.hid (N12.out.keep hb)
        clear hb
        go_wp2_with fail
        refine ⟨HJ.out, ?_⟩
        refine j_two 11 13 _ _ rfl rfl (by kernel_rfl) HJ.out ?_ ?_ 
        · go_wp2_with fail
          refine (key_walk q HQ.out _).mono ?_
          rintro e v25 ⟨rfl, hb⟩
          have HJ := Lib.hid (Below.trans HJ.out (hb.mono HJ.out.size))
          have N12 := Lib.hid (N12.out.keep hb)
          clear hb
          go_wp2_with fail
          refine ⟨HJ.out, ?_⟩
          refine j_one 13 _ rfl (by kernel_rfl) HJ.out ?_ 
          go_wp2_with fail
          have N13 := Lib.hid (Nw.new v25)
          have hgj13 := HJ.out.size
          have lt13 : wj.heap.size < v25.heap.size := N12.out.lt
          have N12 := Lib.hid (N12.out.old (.cells #[.int .u64 0, .int .u64 0, .int .u64 0, .int .u64 0, .int .u64 0] 91))
          have HJ := Lib.hid (HJ.out.alloc hgj13 (.cells #[.int .u64 0, .int .u64 0, .int .u64 0, .int .u64 0, .int .u64 0] 91))
          refine ⟨HJ.out, ?_⟩
          obtain ⟨v26, hv26⟩ : ∃ v, v = (v25.alloc (.cells #[.int .u64 0, .int .u64 0, .int .u64 0, .int .u64 0, .int .u64 0] 91)) := ⟨_, rfl⟩
          rw [← hv26] at HJ ⊢
          rw [← hv26] at N12
          rw [← hv26] at N13
          clear hv26
          refine j_one 14 _ rfl (by kernel_rfl) HJ.out ?_
          have b7 : v26.heap[wj.heap.size]? = some (.cells #[.int .u64 0, .int .u64 0, .int .u64 0, .int .u64 0, .int .u64 0] 91 (0, 0)) := N12.out
          refine wpList_store_at rfl rfl (g := wj.heap.size) (j := 0) rfl rfl b7 (by kernel_rfl) (Nat.le_of_ble_eq_true rfl) (one_u64s _) ?_
          intro y26 u7 o7
          have U7 : Hid (Uw y26 (wj.heap.size) (key p)) := Lib.hid (uw_put rfl u7)
          have hz : wj.heap.size ≠ v25.heap.size := by omega
          have HJ := Lib.hid (Below.trans HJ.out (o7.below (by omega)))
          have b8 : y26.heap[v25.heap.size]? = some (.cells #[.int .u64 0, .int .u64 0, .int .u64 0, .int .u64 0, .int .u64 0] 91 (0, 0)) := (o7.block _ (by omega)).trans N13.out
          have z7 : wj.heap.size < y26.heap.size := (Array.getElem?_eq_some_iff.1 u7).1
          clear u7 o7 b7
          refine ⟨rfl, HJ.out, ?_⟩
          refine j_one 15 _ rfl (by kernel_rfl) HJ.out ?_
          refine wpList_store_at rfl rfl (g := v25.heap.size) (j := 0) rfl rfl b8 (by kernel_rfl) (Nat.le_of_ble_eq_true rfl) (one_u64s _) ?_
          intro x26 u8 o8
          have U8 : Hid (Uw x26 (v25.heap.size) (key q)) := Lib.hid (uw_put rfl u8)
          have U7 : Hid (Uw x26 (wj.heap.size) (key p)) := Lib.hid (U7.out.block (o8.block _ (by omega)))
          have z8 : v25.heap.size < x26.heap.size := (Array.getElem?_eq_some_iff.1 u8).1
          have z7 : wj.heap.size < x26.heap.size := by rw [o8.size]; exact z7
          have HJ := Lib.hid (Below.trans HJ.out (o8.below (by omega)))
          clear u8 o8 b8
          refine ⟨rfl, HJ.out, j_done (by kernel_rfl) ?_⟩
          go_wp2_with fail
          go_meet
          exact ⟨_, _, rfl, rfl, ⟨U7.out, z7⟩, ⟨U8.out, z8⟩, HJ.out⟩
        · go_wp2_with fail
          have N13 := Lib.hid (Nw.new v24)
          have hgj13 := HJ.out.size
          have lt13 : wj.heap.size < v24.heap.size := N12.out.lt
          have N12 := Lib.hid (N12.out.old (.cells #[.int .u64 0, .int .u64 0, .int .u64 0, .int .u64 0, .int .u64 0] 91))
          have HJ := Lib.hid (HJ.out.alloc hgj13 (.cells #[.int .u64 0, .int .u64 0, .int .u64 0, .int .u64 0, .int .u64 0] 91))
          refine ⟨HJ.out, ?_⟩
          obtain ⟨v28, hv28⟩ : ∃ v, v = (v24.alloc (.cells #[.int .u64 0, .int .u64 0, .int .u64 0, .int .u64 0, .int .u64 0] 91)) := ⟨_, rfl⟩
          rw [← hv28] at HJ ⊢
          rw [← hv28] at N12
          rw [← hv28] at N13
          clear hv28
          refine j_one 11 _ rfl (by kernel_rfl) HJ.out ?_ 
          go_wp2_with fail
          refine (key_walk q HQ.out _).mono ?_
          rintro e v29 ⟨rfl, hb⟩
          have HJ := Lib.hid (Below.trans HJ.out (hb.mono HJ.out.size))
          have N12 := Lib.hid (N12.out.keep hb)
          have N13 := Lib.hid (N13.out.keep hb)
          clear hb
          go_wp2_with fail
          refine ⟨HJ.out, ?_⟩
          refine j_one 14 _ rfl (by kernel_rfl) HJ.out ?_
          have b7 : v29.heap[wj.heap.size]? = some (.cells #[.int .u64 0, .int .u64 0, .int .u64 0, .int .u64 0, .int .u64 0] 91 (0, 0)) := N12.out
          refine wpList_store_at rfl rfl (g := wj.heap.size) (j := 0) rfl rfl b7 (by kernel_rfl) (Nat.le_of_ble_eq_true rfl) (one_u64s _) ?_
          intro y29 u7 o7
          have U7 : Hid (Uw y29 (wj.heap.size) (key p)) := Lib.hid (uw_put rfl u7)
          have hz : wj.heap.size ≠ v24.heap.size := by omega
          have HJ := Lib.hid (Below.trans HJ.out (o7.below (by omega)))
          have b8 : y29.heap[v24.heap.size]? = some (.cells #[.int .u64 0, .int .u64 0, .int .u64 0, .int .u64 0, .int .u64 0] 91 (0, 0)) := (o7.block _ (by omega)).trans N13.out
          have z7 : wj.heap.size < y29.heap.size := (Array.getElem?_eq_some_iff.1 u7).1
          clear u7 o7 b7
          refine ⟨rfl, HJ.out, ?_⟩
          refine j_one 15 _ rfl (by kernel_rfl) HJ.out ?_
          refine wpList_store_at rfl rfl (g := v24.heap.size) (j := 0) rfl rfl b8 (by kernel_rfl) (Nat.le_of_ble_eq_true rfl) (one_u64s _) ?_
          intro x29 u8 o8
          have U8 : Hid (Uw x29 (v24.heap.size) (key q)) := Lib.hid (uw_put rfl u8)
          have U7 : Hid (Uw x29 (wj.heap.size) (key p)) := Lib.hid (U7.out.block (o8.block _ (by omega)))
          have z8 : v24.heap.size < x29.heap.size := (Array.getElem?_eq_some_iff.1 u8).1
          have z7 : wj.heap.size < x29.heap.size := by rw [o8.size]; exact z7
          have HJ := Lib.hid (Below.trans HJ.out (o8.below (by omega)))
          clear u8 o8 b8
          refine ⟨rfl, HJ.out, j_done (by kernel_rfl) ?_⟩
          go_wp2_with fail
          go_meet
          exact ⟨_, _, rfl, rfl, ⟨U7.out, z7⟩, ⟨U8.out, z8⟩, HJ.out⟩
      · go_wp2_with fail
        have N13 := Lib.hid (Nw.new v23)
        have hgj13 := HJ.out.size
        have lt13 : wj.heap.size < v23.heap.size := N12.out.lt
        have N12 := Lib.hid (N12.out.old (.cells #[.int .u64 0, .int .u64 0, .int .u64 0, .int .u64 0, .int .u64 0] 91))
        have HJ := Lib.hid (HJ.out.alloc hgj13 (.cells #[.int .u64 0, .int .u64 0, .int .u64 0, .int .u64 0, .int .u64 0] 91))
        refine ⟨HJ.out, ?_⟩
        obtain ⟨v31, hv31⟩ : ∃ v, v = (v23.alloc (.cells #[.int .u64 0, .int .u64 0, .int .u64 0, .int .u64 0, .int .u64 0] 91)) := ⟨_, rfl⟩
        rw [← hv31] at HJ ⊢
        rw [← hv31] at N12
        rw [← hv31] at N13
        clear hv31
        refine j_one 5 _ rfl (by kernel_rfl) HJ.out ?_ 
        go_wp2_with fail
        refine (key_walk p HP.out _).mono ?_
        rintro e v32 ⟨rfl, hb⟩
        have HJ := Lib.hid (Below.trans HJ.out (hb.mono HJ.out.size))
        have N12 := Lib.hid (N12.out.keep hb)
        have N13 := Lib.hid (N13.out.keep hb)
        clear hb
        go_wp2_with fail
        refine ⟨HJ.out, ?_⟩
        refine j_one 11 _ rfl (by kernel_rfl) HJ.out ?_ 
        go_wp2_with fail
        refine (key_walk q HQ.out _).mono ?_
        rintro e v33 ⟨rfl, hb⟩
        have HJ := Lib.hid (Below.trans HJ.out (hb.mono HJ.out.size))
        have N12 := Lib.hid (N12.out.keep hb)
        have N13 := Lib.hid (N13.out.keep hb)
        clear hb
        go_wp2_with fail
        refine ⟨HJ.out, ?_⟩
        refine j_one 14 _ rfl (by kernel_rfl) HJ.out ?_
        have b7 : v33.heap[wj.heap.size]? = some (.cells #[.int .u64 0, .int .u64 0, .int .u64 0, .int .u64 0, .int .u64 0] 91 (0, 0)) := N12.out
        refine wpList_store_at rfl rfl (g := wj.heap.size) (j := 0) rfl rfl b7 (by kernel_rfl) (Nat.le_of_ble_eq_true rfl) (one_u64s _) ?_
        intro y33 u7 o7
        have U7 : Hid (Uw y33 (wj.heap.size) (key p)) := Lib.hid (uw_put rfl u7)
        have hz : wj.heap.size ≠ v23.heap.size := by omega
        have HJ := Lib.hid (Below.trans HJ.out (o7.below (by omega)))
        have b8 : y33.heap[v23.heap.size]? = some (.cells #[.int .u64 0, .int .u64 0, .int .u64 0, .int .u64 0, .int .u64 0] 91 (0, 0)) := (o7.block _ (by omega)).trans N13.out
        have z7 : wj.heap.size < y33.heap.size := (Array.getElem?_eq_some_iff.1 u7).1
        clear u7 o7 b7
        refine ⟨rfl, HJ.out, ?_⟩
        refine j_one 15 _ rfl (by kernel_rfl) HJ.out ?_
        refine wpList_store_at rfl rfl (g := v23.heap.size) (j := 0) rfl rfl b8 (by kernel_rfl) (Nat.le_of_ble_eq_true rfl) (one_u64s _) ?_
        intro x33 u8 o8
        have U8 : Hid (Uw x33 (v23.heap.size) (key q)) := Lib.hid (uw_put rfl u8)
        have U7 : Hid (Uw x33 (wj.heap.size) (key p)) := Lib.hid (U7.out.block (o8.block _ (by omega)))
        have z8 : v23.heap.size < x33.heap.size := (Array.getElem?_eq_some_iff.1 u8).1
        have z7 : wj.heap.size < x33.heap.size := by rw [o8.size]; exact z7
        have HJ := Lib.hid (Below.trans HJ.out (o8.below (by omega)))
        clear u8 o8 b8
        refine ⟨rfl, HJ.out, j_done (by kernel_rfl) ?_⟩
        go_wp2_with fail
        go_meet
        exact ⟨_, _, rfl, rfl, ⟨U7.out, z7⟩, ⟨U8.out, z8⟩, HJ.out⟩
    · go_wp2_with fail
      have N13 := Lib.hid (Nw.new wj)
      have hgj13 := HJ.out.size
      have HJ := Lib.hid (HJ.out.alloc hgj13 (.cells #[.int .u64 0, .int .u64 0, .int .u64 0, .int .u64 0, .int .u64 0] 91))
      refine ⟨HJ.out, ?_⟩
      obtain ⟨v35, hv35⟩ : ∃ v, v = (wj.alloc (.cells #[.int .u64 0, .int .u64 0, .int .u64 0, .int .u64 0, .int .u64 0] 91)) := ⟨_, rfl⟩
      rw [← hv35] at HJ ⊢
      rw [← hv35] at N13
      clear hv35
      refine j_two 5 12 _ _ rfl rfl (by kernel_rfl) HJ.out ?_ ?_ 
      · go_wp2_with fail
        refine (key_walk p HP.out _).mono ?_
        rintro e v36 ⟨rfl, hb⟩
        have HJ := Lib.hid (Below.trans HJ.out (hb.mono HJ.out.size))
        have N13 := Lib.hid (N13.out.keep hb)
        clear hb
        go_wp2_with fail
        refine ⟨HJ.out, ?_⟩
        refine j_two 11 12 _ _ rfl rfl (by kernel_rfl) HJ.out ?_ ?_ 
        · go_wp2_with fail
          refine (key_walk q HQ.out _).mono ?_
          rintro e v37 ⟨rfl, hb⟩
          have HJ := Lib.hid (Below.trans HJ.out (hb.mono HJ.out.size))
          have N13 := Lib.hid (N13.out.keep hb)
          clear hb
          go_wp2_with fail
          refine ⟨HJ.out, ?_⟩
          refine j_one 12 _ rfl (by kernel_rfl) HJ.out ?_ 
          go_wp2_with fail
          have N12 := Lib.hid (Nw.new v37)
          have hgj12 := HJ.out.size
          have lt12 : wj.heap.size < v37.heap.size := N13.out.lt
          have N13 := Lib.hid (N13.out.old (.cells #[.int .u64 0, .int .u64 0, .int .u64 0, .int .u64 0, .int .u64 0] 91))
          have HJ := Lib.hid (HJ.out.alloc hgj12 (.cells #[.int .u64 0, .int .u64 0, .int .u64 0, .int .u64 0, .int .u64 0] 91))
          refine ⟨HJ.out, ?_⟩
          obtain ⟨v38, hv38⟩ : ∃ v, v = (v37.alloc (.cells #[.int .u64 0, .int .u64 0, .int .u64 0, .int .u64 0, .int .u64 0] 91)) := ⟨_, rfl⟩
          rw [← hv38] at HJ ⊢
          rw [← hv38] at N13
          rw [← hv38] at N12
          clear hv38
          refine j_one 14 _ rfl (by kernel_rfl) HJ.out ?_
          have b7 : v38.heap[v37.heap.size]? = some (.cells #[.int .u64 0, .int .u64 0, .int .u64 0, .int .u64 0, .int .u64 0] 91 (0, 0)) := N12.out
          refine wpList_store_at rfl rfl (g := v37.heap.size) (j := 0) rfl rfl b7 (by kernel_rfl) (Nat.le_of_ble_eq_true rfl) (one_u64s _) ?_
          intro y38 u7 o7
          have U7 : Hid (Uw y38 (v37.heap.size) (key p)) := Lib.hid (uw_put rfl u7)
          have hz : v37.heap.size ≠ wj.heap.size := by omega
          have HJ := Lib.hid (Below.trans HJ.out (o7.below (by omega)))
          have b8 : y38.heap[wj.heap.size]? = some (.cells #[.int .u64 0, .int .u64 0, .int .u64 0, .int .u64 0, .int .u64 0] 91 (0, 0)) := (o7.block _ (by omega)).trans N13.out
          have z7 : v37.heap.size < y38.heap.size := (Array.getElem?_eq_some_iff.1 u7).1
          clear u7 o7 b7
          refine ⟨rfl, HJ.out, ?_⟩
          refine j_one 15 _ rfl (by kernel_rfl) HJ.out ?_
          refine wpList_store_at rfl rfl (g := wj.heap.size) (j := 0) rfl rfl b8 (by kernel_rfl) (Nat.le_of_ble_eq_true rfl) (one_u64s _) ?_
          intro x38 u8 o8
          have U8 : Hid (Uw x38 (wj.heap.size) (key q)) := Lib.hid (uw_put rfl u8)
          have U7 : Hid (Uw x38 (v37.heap.size) (key p)) := Lib.hid (U7.out.block (o8.block _ (by omega)))
          have z8 : wj.heap.size < x38.heap.size := (Array.getElem?_eq_some_iff.1 u8).1
          have z7 : v37.heap.size < x38.heap.size := by rw [o8.size]; exact z7
          have HJ := Lib.hid (Below.trans HJ.out (o8.below (by omega)))
          clear u8 o8 b8
          refine ⟨rfl, HJ.out, j_done (by kernel_rfl) ?_⟩
          go_wp2_with fail
          go_meet
          exact ⟨_, _, rfl, rfl, ⟨U7.out, z7⟩, ⟨U8.out, z8⟩, HJ.out⟩
        · go_wp2_with fail
          have N12 := Lib.hid (Nw.new v36)
          have hgj12 := HJ.out.size
          have lt12 : wj.heap.size < v36.heap.size := N13.out.lt
          have N13 := Lib.hid (N13.out.old (.cells #[.int .u64 0, .int .u64 0, .int .u64 0, .int .u64 0, .int .u64 0] 91))
          have HJ := Lib.hid (HJ.out.alloc hgj12 (.cells #[.int .u64 0, .int .u64 0, .int .u64 0, .int .u64 0, .int .u64 0] 91))
          refine ⟨HJ.out, ?_⟩
          obtain ⟨v40, hv40⟩ : ∃ v, v = (v36.alloc (.cells #[.int .u64 0, .int .u64 0, .int .u64 0, .int .u64 0, .int .u64 0] 91)) := ⟨_, rfl⟩
          rw [← hv40] at HJ ⊢
          rw [← hv40] at N13
          rw [← hv40] at N12
          clear hv40
          refine j_one 11 _ rfl (by kernel_rfl) HJ.out ?_ 
          go_wp2_with fail
          refine (key_walk q HQ.out _).mono ?_
          rintro e v41 ⟨rfl, hb⟩
          have HJ := Lib.hid (Below.trans HJ.out (hb.mono HJ.out.size))
          have N13 := Lib.hid (N13.out.keep hb)
          have N12 := Lib.hid (N12.out.keep hb)
          clear hb
          go_wp2_with fail
          refine ⟨HJ.out, ?_⟩
          refine j_one 14 _ rfl (by kernel_rfl) HJ.out ?_
          have b7 : v41.heap[v36.heap.size]? = some (.cells #[.int .u64 0, .int .u64 0, .int .u64 0, .int .u64 0, .int .u64 0] 91 (0, 0)) := N12.out
          refine wpList_store_at rfl rfl (g := v36.heap.size) (j := 0) rfl rfl b7 (by kernel_rfl) (Nat.le_of_ble_eq_true rfl) (one_u64s _) ?_
          intro y41 u7 o7
          have U7 : Hid (Uw y41 (v36.heap.size) (key p)) := Lib.hid (uw_put rfl u7)
          have hz : v36.heap.size ≠ wj.heap.size := by omega
          have HJ := Lib.hid (Below.trans HJ.out (o7.below (by omega)))
          have b8 : y41.heap[wj.heap.size]? = some (.cells #[.int .u64 0, .int .u64 0, .int .u64 0, .int .u64 0, .int .u64 0] 91 (0, 0)) := (o7.block _ (by omega)).trans N13.out
          have z7 : v36.heap.size < y41.heap.size := (Array.getElem?_eq_some_iff.1 u7).1
          clear u7 o7 b7
          refine ⟨rfl, HJ.out, ?_⟩
          refine j_one 15 _ rfl (by kernel_rfl) HJ.out ?_
          refine wpList_store_at rfl rfl (g := wj.heap.size) (j := 0) rfl rfl b8 (by kernel_rfl) (Nat.le_of_ble_eq_true rfl) (one_u64s _) ?_
          intro x41 u8 o8
          have U8 : Hid (Uw x41 (wj.heap.size) (key q)) := Lib.hid (uw_put rfl u8)
          have U7 : Hid (Uw x41 (v36.heap.size) (key p)) := Lib.hid (U7.out.block (o8.block _ (by omega)))
          have z8 : wj.heap.size < x41.heap.size := (Array.getElem?_eq_some_iff.1 u8).1
          have z7 : v36.heap.size < x41.heap.size := by rw [o8.size]; exact z7
          have HJ := Lib.hid (Below.trans HJ.out (o8.below (by omega)))
          clear u8 o8 b8
          refine ⟨rfl, HJ.out, j_done (by kernel_rfl) ?_⟩
          go_wp2_with fail
          go_meet
          exact ⟨_, _, rfl, rfl, ⟨U7.out, z7⟩, ⟨U8.out, z8⟩, HJ.out⟩
      · go_wp2_with fail
        have N12 := Lib.hid (Nw.new v35)
        have hgj12 := HJ.out.size
        have lt12 : wj.heap.size < v35.heap.size := N13.out.lt
        have N13 := Lib.hid (N13.out.old (.cells #[.int .u64 0, .int .u64 0, .int .u64 0, .int .u64 0, .int .u64 0] 91))
        have HJ := Lib.hid (HJ.out.alloc hgj12 (.cells #[.int .u64 0, .int .u64 0, .int .u64 0, .int .u64 0, .int .u64 0] 91))
        refine ⟨HJ.out, ?_⟩
        obtain ⟨v43, hv43⟩ : ∃ v, v = (v35.alloc (.cells #[.int .u64 0, .int .u64 0, .int .u64 0, .int .u64 0, .int .u64 0] 91)) := ⟨_, rfl⟩
        rw [← hv43] at HJ ⊢
        rw [← hv43] at N13
        rw [← hv43] at N12
        clear hv43
        refine j_one 5 _ rfl (by kernel_rfl) HJ.out ?_ 
        go_wp2_with fail
        refine (key_walk p HP.out _).mono ?_
        rintro e v44 ⟨rfl, hb⟩
        have HJ := Lib.hid (Below.trans HJ.out (hb.mono HJ.out.size))
        have N13 := Lib.hid (N13.out.keep hb)
        have N12 := Lib.hid (N12.out.keep hb)
        clear hb
        go_wp2_with fail
        refine ⟨HJ.out, ?_⟩
        refine j_one 11 _ rfl (by kernel_rfl) HJ.out ?_ 
        go_wp2_with fail
        refine (key_walk q HQ.out _).mono ?_
        rintro e v45 ⟨rfl, hb⟩
        have HJ := Lib.hid (Below.trans HJ.out (hb.mono HJ.out.size))
        have N13 := Lib.hid (N13.out.keep hb)
        have N12 := Lib.hid (N12.out.keep hb)
        clear hb
        go_wp2_with fail
        refine ⟨HJ.out, ?_⟩
        refine j_one 14 _ rfl (by kernel_rfl) HJ.out ?_
        have b7 : v45.heap[v35.heap.size]? = some (.cells #[.int .u64 0, .int .u64 0, .int .u64 0, .int .u64 0, .int .u64 0] 91 (0, 0)) := N12.out
        refine wpList_store_at rfl rfl (g := v35.heap.size) (j := 0) rfl rfl b7 (by kernel_rfl) (Nat.le_of_ble_eq_true rfl) (one_u64s _) ?_
        intro y45 u7 o7
        have U7 : Hid (Uw y45 (v35.heap.size) (key p)) := Lib.hid (uw_put rfl u7)
        have hz : v35.heap.size ≠ wj.heap.size := by omega
        have HJ := Lib.hid (Below.trans HJ.out (o7.below (by omega)))
        have b8 : y45.heap[wj.heap.size]? = some (.cells #[.int .u64 0, .int .u64 0, .int .u64 0, .int .u64 0, .int .u64 0] 91 (0, 0)) := (o7.block _ (by omega)).trans N13.out
        have z7 : v35.heap.size < y45.heap.size := (Array.getElem?_eq_some_iff.1 u7).1
        clear u7 o7 b7
        refine ⟨rfl, HJ.out, ?_⟩
        refine j_one 15 _ rfl (by kernel_rfl) HJ.out ?_
        refine wpList_store_at rfl rfl (g := wj.heap.size) (j := 0) rfl rfl b8 (by kernel_rfl) (Nat.le_of_ble_eq_true rfl) (one_u64s _) ?_
        intro x45 u8 o8
        have U8 : Hid (Uw x45 (wj.heap.size) (key q)) := Lib.hid (uw_put rfl u8)
        have U7 : Hid (Uw x45 (v35.heap.size) (key p)) := Lib.hid (U7.out.block (o8.block _ (by omega)))
        have z8 : wj.heap.size < x45.heap.size := (Array.getElem?_eq_some_iff.1 u8).1
        have z7 : v35.heap.size < x45.heap.size := by rw [o8.size]; exact z7
        have HJ := Lib.hid (Below.trans HJ.out (o8.below (by omega)))
        clear u8 o8 b8
        refine ⟨rfl, HJ.out, j_done (by kernel_rfl) ?_⟩
        go_wp2_with fail
        go_meet
        exact ⟨_, _, rfl, rfl, ⟨U7.out, z7⟩, ⟨U8.out, z8⟩, HJ.out⟩
  case rest =>
    obtain ⟨w1, rfl⟩ : ∃ x, x = wc := ⟨_, rfl⟩
    obtain ⟨g7, g8, rfl, rfl, ⟨u7, z7⟩, ⟨u8, z8⟩, bb⟩ := hcut
    have BB := Lib.hid bb
    have U := Lib.hid (And.intro u7 u8)
    clear bb u7 u8 p0 p1 p2 p3 p4 q0 q1 q2 q3 q4 c1 c2
    have hcf2 : ∀ (args : Array Value) (w : World), (callFunc 66 args).run Try.prog w = .ok (.enter 66 args) w := fun _ _ => by kernel_rfl
    go_wp2_with fail
    refine wp_region_G (TCm (ordP p q)) (by kernel_rfl) (by kernel_rfl) ?_
    refine wpG_step' (fun K hA hK => ?_); go_simp; (refine bothG_value hA (v := ?_) (fun w' hw' => ?_) ?_; rotate_left; (· go_simp; rfl); (refine hK _ _ ?_; clear hK hA K))
    refine wpG_step' (fun K hA hK => ?_); go_simp; (refine bothG_value hA (v := ?_) (fun w' hw' => ?_) ?_; rotate_left; (· go_simp; rfl); (refine hK _ _ ?_; clear hK hA K))
    refine wpG_step' (fun K hA hK => ?_); go_simp; (refine bothG_call (f := 65) (args := ?_) (fun w' => ?_) (fun w' hw' => ?_) ?_; rotate_left; (· go_simp; rfl); (· trace_state; exact (compare_walk g7 g8 (key p) (key q) w' rfl rfl (Nat.lt_of_lt_of_le z7 hw'.size) (Nat.lt_of_lt_of_le z8 hw'.size) (U.out.1.block (hw'.block _ z7)) (U.out.2.block (hw'.block _ z8))).mono fun e w'' ⟨he, hw⟩ => ⟨_, he, fun _ => rfl, by subst hw; exact Below.refl _ _⟩); (intro u y hu; have hu2 := hu rfl; subst hu2; clear hu; refine hK _ _ ?_; clear hK hA K))
    refine wpG_step' (fun K hA hK => ?_); go_simp; (refine bothG_value hA (v := ?_) (fun w' hw' => ?_) ?_; rotate_left; (· go_simp; rfl); (refine hK _ _ ?_; clear hK hA K))
    refine wpG_nil ?_
    intro w2 hb hF
    have BB := Lib.hid (BB.out.trans (hb.mono BB.out.size))
    clear hb hF
    go_wp2_with fail
    go_ret
    exact ⟨rfl, BB.out⟩
end Go.Proofs.Ytdngkeefbpffcaa
