import Derived.Test.YtdngkeefbpffcaaFlG
import Derived.Test.YtdngkeefbpffcaaPlA
import Derived.Test.YtdngkeefbpffcaaProg
import Derived.WalkKit
import Derived.WalkLawsBesides
import Derived.WalkSpells
import Derived.BigQuiet
import Derived.Lib.Hide
import Derived.Outline
import Derived.LoopTactic
import Derived.Deep.Heap
import Derived.Deep.OwnRows
import Derived.Below
import Derived.IntWalk
import Derived.Laws.AppendOwn
import Derived.Laws.MakeOwn
import Derived.Laws.OwnMore
import Derived.Maps.AppendAt
import Derived.Deep.DeepCutAuto
import Derived.Deep.CutBlock
set_option autoImplicit false
set_option linter.unusedVariables false
/-! plots' Resolve: the marks, in plain words -/
namespace Rs
/-- some cell lies at most off from x, around a circle of E -/
def mk (E : Nat) (off : Int) (C : List Int) (x : Nat) : Bool := C.any fun c => (List.range (2 * off.toNat + 1)).any fun d => decide ((c % E + ((d : Int) - off)) % E = x)
end Rs
namespace Go.Proofs.Ytdngkeefbpffcaa
open Go.RowKit Lk Rs
theorem tmb (n m : Int) (hm : 0 < m) : -m < n.tmod m ∧ n.tmod m < m := by
  have h1 := Int.tmod_lt_of_pos n hm
  have h2 := Int.lt_tmod_of_pos n hm
  omega
theorem ret_i {a b : Int} (h : a = b) : Ending.returned (.int .i64 a) = .returned (.int .i64 b) := by rw [h]
theorem tm_neg {x m : Int} (h : 0 < m) (hn : x.tmod m < 0) : x.tmod m + m = x % m := by
  have e := Int.tmod_eq_emod (a := x) (b := m)
  have b := Int.emod_lt_of_pos x h
  have c := Int.emod_nonneg x (b := m) (by omega)
  rw [e] at hn ⊢
  split at hn
  · rename_i g; rw [if_pos g]; omega
  · rename_i g; rw [if_neg g]; omega
theorem tm_pos {x m : Int} (h : 0 < m) (hn : ¬ x.tmod m < 0) : x.tmod m = x % m := by
  have e := Int.tmod_eq_emod (a := x) (b := m)
  have b := Int.emod_lt_of_pos x h
  have c := Int.emod_nonneg x (b := m) (by omega)
  rw [e] at hn ⊢
  split at hn
  · rename_i g; rw [if_pos g]; omega
  · rename_i g; rw [if_neg g]; omega
set_option maxHeartbeats 1000000 in
theorem pmod_walk (x m : Int) (m1 : 1 ≤ m) (m2 : m ≤ 4611686018427387904) (w : World) : Calls Try.prog 62 #[.int .i64 x, .int .i64 m] w (fun e w' => e = .returned (.int .i64 (x % m)) ∧ w = w') := by
  have t1 := tmb x m (by omega)
  have N := Lib.hid (tm_neg (x := x) (m := m) (by omega))
  have P := Lib.hid (tm_pos (x := x) (m := m) (by omega))
  generalize x % m = z at N P ⊢
  generalize hq : x.tmod m = y at *
  by_cases h : y < 0
  · go_enter Try.func62, Try.ntmps62
    go_wp2_with fail
    go_ret
    exact ⟨ret_i (N.out h), rfl⟩
  · go_enter Try.func62, Try.ntmps62
    go_wp2_with fail
    go_ret
    exact ⟨ret_i (P.out h), rfl⟩
/-! slices of whole numbers -/
structure SN (w : World) (a : Option Addr) (n cap : Nat) (M : List Int) : Prop where
  len : M.length = n
  le : n ≤ cap
  small : cap ≤ 9223372036854775807
  cells : n = 0 ∨ ∃ b off, a = some ⟨b, off, none⟩ ∧ b < w.heap.size ∧ ∀ (j : Nat) x, M[j]? = some x → w.cell? ⟨b, off + j, none⟩ = some (.int .i64 x)
theorem SN.at {w : World} {a : Option Addr} {n cap : Nat} {M : List Int} (h : SN w a n cap M) {k : Nat} (hk : k < n) : ∃ b off x, a = some ⟨b, off, none⟩ ∧ b < w.heap.size ∧ M[k]? = some x ∧ w.cell? ⟨b, off + k, none⟩ = some (.int .i64 x) := by
  rcases h.cells with h0 | ⟨b, off, ha, hb, hc⟩
  · omega
  · have hl : k < M.length := by rw [h.len]; exact hk
    exact ⟨b, off, M[k], ha, hb, List.getElem?_eq_getElem hl, hc k _ (List.getElem?_eq_getElem hl)⟩
theorem SN.keep {w w' : World} {a : Option Addr} {n cap : Nat} {M : List Int} (h : SN w a n cap M) (b : Below w.heap.size w w') : SN w' a n cap M :=
  ⟨h.len, h.le, h.small, h.cells.imp id fun ⟨g, off, ha, hg, hc⟩ => ⟨g, off, ha, Nat.lt_of_lt_of_le hg b.size, fun j x hx => (b.cell (p := ⟨g, off + j, none⟩) hg).trans (hc j x hx)⟩⟩
/-! a block of one's own that says which places are marked -/
structure MB (E : Nat) (w wr : World) (g : Nat) (f : Nat → Bool) : Prop where
  b : Below w.heap.size w wr
  g0 : w.heap.size ≤ g
  cl : ∃ cur, wr.heap[g]? = some (.cells cur 4 (0, 0)) ∧ cur.size = E ∧ ∀ i, i < E → cur[i]? = some (.bool (f i))
theorem mcell {w : World} {g : Nat} {c : Array Value} {t : TypeId} (h : w.heap[g]? = some (.cells c t (0, 0))) (i : Nat) : w.cell? ⟨g, i, none⟩ = c[i]? := by simp [World.cell?, h]
theorem mfz {w : World} {g : Nat} {c : Array Value} {t : TypeId} (h : w.heap[g]? = some (.cells c t (0, 0))) (i : Nat) : w.frozen? ⟨g, i, none⟩ = false := by simp [World.frozen?, h]
theorem rs_set (w : World) (g o : Nat) (u : Value) {cur : Array Value} {t : TypeId} {f : Nat × Nat} (h : w.heap[g]? = some (.cells cur t f)) : (w.setCell ⟨g, o, none⟩ u).heap[g]? = some (.cells (cur.setIfInBounds o u) t f) := by
  obtain ⟨h1, h2⟩ := Array.getElem?_eq_some_iff.1 h
  unfold World.setCell
  simp only
  rw [Array.getElem?_eq_getElem (by simpa using h1), Array.getElem_modify]
  simp [h2]
theorem MB.lt {E : Nat} {w wr : World} {g : Nat} {f : Nat → Bool} (h : MB E w wr g f) : g < wr.heap.size := by
  obtain ⟨cur, e, _⟩ := h.cl
  exact (Array.getElem?_eq_some_iff.1 e).1
theorem MB.cell {E : Nat} {w wr : World} {g : Nat} {f : Nat → Bool} (h : MB E w wr g f) {i : Nat} (hi : i < E) : wr.cell? ⟨g, i, none⟩ = some (.bool (f i)) := by
  obtain ⟨cur, e, _, e2⟩ := h.cl
  rw [mcell e, e2 i hi]
theorem MB.fz {E : Nat} {w wr : World} {g : Nat} {f : Nat → Bool} (h : MB E w wr g f) (i : Nat) : wr.frozen? ⟨g, i, none⟩ = false := by
  obtain ⟨cur, e, _⟩ := h.cl
  exact mfz e i
theorem MB.set {E : Nat} {w wr : World} {g : Nat} {f : Nat → Bool} (h : MB E w wr g f) {i : Nat} (hi : i < E) (v : Bool) : MB E w (wr.setCell ⟨g, i, none⟩ (.bool v)) g (fun k => if k = i then v else f k) := by
  obtain ⟨cur, e, e1, e2⟩ := h.cl
  refine ⟨h.b.setCell h.g0 _, h.g0, _, rs_set _ _ _ _ e, by simp [e1], fun k hk => ?_⟩
  rw [Array.getElem?_setIfInBounds]
  by_cases hki : i = k
  · subst hki; rw [if_pos rfl, if_pos (by omega), if_pos rfl]
  · rw [if_neg hki, if_neg (fun e => hki e.symm)]; exact e2 k hk
theorem MB.eqv {E : Nat} {w wr : World} {g : Nat} {f f' : Nat → Bool} (h : MB E w wr g f) (e : ∀ i, i < E → f i = f' i) : MB E w wr g f' := by
  obtain ⟨cur, e1, e2, e3⟩ := h.cl
  exact ⟨h.b, h.g0, cur, e1, e2, fun i hi => by rw [e3 i hi, e i hi]⟩
theorem Try.undB : Try.prog.underlying 67 = some (.slice 4) := by kernel_rfl
theorem bool_info : (Try.prog.info? 4).map (fun i => (i.zero.map (·.cells), i.size, i.bytes)) = some (some #[.bool false], 1, 1) := by kernel_rfl
theorem MB.new (E : Nat) (w : World) : MB E w (w.alloc (.cells (madeCells #[.bool false] (E * 1)) 4)) w.heap.size (fun _ => false) := by
  refine ⟨(Below.refl _ w).alloc (Nat.le_refl _) _, Nat.le_refl _, _, Deep.blk_alloc_new w _, by simp [madeCells], fun i hi => ?_⟩
  unfold madeCells
  rw [Array.getElem?_map, Array.getElem?_range, if_pos (by omega)]
  simp only [Option.map_some, Array.size_singleton]
  rw [Nat.mod_one]; rfl
/-! the marks so far: of the first k cells, and of the next one the first j moves -/
def mkK (E : Nat) (off : Int) (C : List Int) (k : Nat) (x : Nat) : Bool := mk E off (C.take k) x
def mkJ (E : Nat) (off : Int) (c : Int) (j : Nat) (x : Nat) : Bool := (List.range j).any fun d => decide ((c % E + ((d : Int) - off)) % E = x)
theorem mkJ_succ (E : Nat) (off : Int) (c : Int) (j : Nat) (x : Nat) : mkJ E off c (j + 1) x = (mkJ E off c j x || decide ((c % E + ((j : Int) - off)) % E = x)) := by
  unfold mkJ; rw [List.range_succ, List.any_append]; simp
theorem mkK_succ {E : Nat} {off : Int} {C : List Int} {k : Nat} {c : Int} (h : C[k]? = some c) (x : Nat) : mkK E off C (k + 1) x = (mkK E off C k x || mkJ E off c (2 * off.toNat + 1) x) := by
  unfold mkK mk mkJ
  rw [List.take_add_one, h, List.any_append]; simp
set_option maxRecDepth 100000 in
set_option maxHeartbeats 2000000 in
theorem marked_walk (a : Option Addr) (n cap : Nat) (C : List Int) (E : Nat) (E1 : 1 ≤ E) (E2 : E ≤ 1000000) (off : Int) (o0 : 0 ≤ off) (w : World) (hC : SN w a n cap C) :
    Calls Try.prog 38 #[.int .i64 E, .slice a n cap, .int .i64 off] w (fun e w' => ∃ g, e = .returned (.slice (some ⟨g, 0, none⟩) E E) ∧ MB E w w' g (mk E (min off E) C)) := by
  obtain ⟨I, hi, hzz⟩ := Option.map_eq_some_iff.1 bool_info
  simp only [Prod.mk.injEq] at hzz
  obtain ⟨z, hz, hzc⟩ := Option.map_eq_some_iff.1 hzz.1
  have hmk : ∀ w : World, (Instr.makeSlice 67 (.int .i64 (E : Int)) (.int .i64 (E : Int))).run Try.prog w = .ok (.slice (some ⟨w.heap.size, 0, none⟩) E E) (w.alloc (.cells (madeCells #[.bool false] (E * 1)) 4)) := fun w => by
    have := run_make (P := Try.prog) w 67 4 I z Try.undB hi hz .i64 .i64 E E (by omega) (Int.le_refl _) (by rw [hzz.2.2]; omega) (by omega)
    rw [hzc, hzz.2.1] at this
    simpa using this
  have h0 := MB.new E w
  generalize madeCells #[.bool false] (E * 1) = mz at hmk h0
  have H0 := Lib.hid h0
  have SA := Lib.hid hC
  have n63 : n ≤ 9223372036854775807 := Nat.le_trans hC.le hC.small
  have nc := hC.le
  have c63 := hC.small
  obtain ⟨o, ho⟩ : ∃ o : Nat, min off (E : Int) = (o : Int) := ⟨(min off (E : Int)).toNat, by omega⟩
  have HO := Lib.hid ho
  have HO3 := Lib.hid ho
  have oE : o ≤ E := by omega
  rw [ho]
  clear h0 hzz hzc hz hi hC
  go_enter Try.func38, Try.ntmps38
  go_upto_region 2 with fail
  go_cut [2] (fun s2 wx => s2 = .int .i64 (o : Int) ∧ wx = w.alloc (.cells mz 4))
  case first =>
    by_cases hle : off ≤ (E : Int)
    · have HO2 : Hid (off = (o : Int)) := Lib.hid (by omega)
      clear ho
      go_wp2_with fail
      go_meet
      exact ⟨by rw [HO2.out], rfl⟩
    · have HO2 : Hid ((E : Int) = (o : Int)) := Lib.hid (by omega)
      clear ho
      go_wp2_with fail
      go_meet
      exact ⟨by rw [HO2.out], rfl⟩
  case rest =>
  obtain ⟨rfl, rfl⟩ := hcut
  clear hmk ho HO3
  obtain ⟨G, hG⟩ : ∃ G, G = w.heap.size := ⟨_, rfl⟩
  have h0 := H0.out
  rw [← hG] at h0
  replace H0 := Lib.hid (h0.eqv (f' := mkK E o C 0) fun i hi => by unfold mkK mk; simp)
  clear h0
  go_wp2_with fail
  rw [← hG]
  clear hG
  go_loopw [18] (fun i wr => ∃ k : Nat, i = .int .i64 k ∧ k ≤ n ∧ MB E w wr G (mkK E o C k)) (fun i _ => n - (intOf i).toNat)
  case atStart => exact ⟨0, rfl, by omega, H0.out⟩
  case round =>
    obtain ⟨k, rfl, hk, R⟩ := hrel
    have HR := Lib.hid R
    clear R H0
    by_cases hlt : k < n
    · obtain ⟨b, of, c, rfl, hb, hx, c0⟩ := SA.out.at hlt
      have cc := (HR.out.b.cell (p := ⟨b, of + k, none⟩) hb).trans c0
      have bl := Nat.lt_of_lt_of_le hb HR.out.b.size
      have HX := Lib.hid hx
      have me := Int.emod_nonneg c (b := (E : Int)) (by omega)
      have ml := Int.emod_lt_of_pos c (b := (E : Int)) (by omega)
      obtain ⟨ce, hce⟩ : ∃ ce, c % (E : Int) = ce := ⟨_, rfl⟩
      rw [hce] at me ml
      have HCE := Lib.hid hce
      clear hx c0 hb hce
      go_wp2_with fail
      refine (pmod_walk c E (by omega) (by omega) _).mono ?_
      rintro e w1 ⟨rfl, rfl⟩
      rw [HCE.out]
      clear cc bl
      go_wp2_with fail
      go_loopw [10] (fun v wr2 => ∃ j : Nat, v = .int .i64 ((j : Int) - (o : Int)) ∧ j ≤ 2 * o + 1 ∧ MB E w wr2 G (fun x => mkK E o C k x || mkJ E o c j x)) (fun v _ => 2 * o + 1 - (intOf v + o).toNat)
      case atStart => exact ⟨0, by simp, by omega, HR.out.eqv fun i hi => by unfold mkJ; simp⟩
      case round =>
        obtain ⟨j, rfl, hj, R2⟩ := hrel
        have HR2 := Lib.hid R2
        clear R2
        by_cases hjo : (j : Int) - (o : Int) ≤ (o : Int)
        · have me2 := Int.emod_nonneg (ce + ((j : Int) - (o : Int))) (b := (E : Int)) (by omega)
          have ml2 := Int.emod_lt_of_pos (ce + ((j : Int) - (o : Int))) (b := (E : Int)) (by omega)
          obtain ⟨x, hx⟩ : ∃ x : Nat, (ce + ((j : Int) - (o : Int))) % (E : Int) = (x : Int) := ⟨((ce + ((j : Int) - (o : Int))) % (E : Int)).toNat, by omega⟩
          rw [hx] at me2 ml2
          have xE : x < E := by omega
          have HXX := Lib.hid hx
          have gl := HR2.out.lt
          have cj := HR2.out.cell xE
          have fz := HR2.out.fz x
          clear hx
          go_wp2_with fail
          refine (pmod_walk (ce + ((j : Int) - (o : Int))) E (by omega) (by omega) _).mono ?_
          rintro e w1 ⟨rfl, rfl⟩
          rw [HXX.out]
          have NX := Lib.hid ((HR2.out.set xE true).eqv (f' := fun x => mkK E o C k x || mkJ E o c (j + 1) x) fun i hi => by
            rw [mkJ_succ]
            have e1 : decide ((c % (E : Int) + ((j : Int) - (o : Int))) % (E : Int) = (i : Int)) = decide (i = x) := by
              rw [HCE.out, HXX.out]; by_cases e : i = x
              · subst e; simp
              · rw [decide_eq_false (by omega), decide_eq_false e]
            rw [e1]
            by_cases e : i = x
            · simp [e]
            · simp [e])
          go_wp2_with fail
          go_roundw
          case rel => exact ⟨j + 1, by go_num, by omega, NX.out⟩
          case measure => simp only [intOf]; omega
        · have ej : j = 2 * o + 1 := by omega
          subst ej
          have NX := Lib.hid (HR2.out.eqv (f' := mkK E o C (k + 1)) fun i hi => by rw [mkK_succ HX.out, show (2 * (o : Int).toNat + 1) = 2 * o + 1 by simp])
          go_wp2_with fail
          go_roundw
          case rel => exact ⟨k + 1, by go_num, by omega, NX.out⟩
          case measure => simp only [intOf]; omega
    · have NX := Lib.hid (HR.out.eqv (f' := mk E o C) fun i hi => by unfold mkK; rw [List.take_of_length_le (by rw [SA.out.len]; omega)])
      go_wp2_with fail
      go_ret
      exact ⟨G, rfl, NX.out⟩
end Go.Proofs.Ytdngkeefbpffcaa
