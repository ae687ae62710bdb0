import Derived.Test.YtgdkmakmdomdbaaPnRo
import Derived.Test.YtgdkmakmdomdbaaFlO
set_option autoImplicit false
set_option linter.unusedVariables false
namespace Go.Proofs.Ytgdkmakmdomdbaa
open Go.RowKit Lk Pn
/-- a list's stretches from k on, the block its own -/
structure AR (w wr : World) (g n cap k : Nat) (L : List Sl) : Prop where
  f : Fr (fun i => i = g) w wr
  hb : ∃ cur, wr.heap[g]? = some (.cells cur 42 (0, 0)) ∧ cur.size = cap * 4 ∧ ∀ (j : Nat) s, k ≤ j → L[j]? = some s → ∀ q u, (slc s).toList[q]? = some u → cur[j * 4 + q]? = some u
theorem AR.draw {w wr : World} {g n cap k : Nat} {L : List Sl} (h : AR w wr g n cap k L) (d : Nat) : AR w (wr.drewN d) g n cap k L := ⟨⟨h.f.os, h.f.tape, h.f.output, h.f.size, h.f.block⟩, h.hb⟩
def m9 : Array Value := #[.int .i64 (-9), .int .i64 0, .int .i64 0, .bool false]
theorem AR.next {w wr w2 : World} {g n cap k : Nat} {L : List Sl} (h : AR w wr g n cap k L) (hk : k * 4 + 4 ≤ cap * 4) {cur : Array Value} (hc : wr.heap[g]? = some (.cells cur 42 (0, 0))) (h2 : w2.heap[g]? = some (.cells (putAll cur (k * 4) m9.toList) 42 (0, 0))) (on : Only g wr w2) : AR w w2 g n cap (k + 1) L := by
  obtain ⟨cur0, e1, e2, e3⟩ := h.hb
  rw [hc] at e1; cases e1
  refine ⟨h.f.trans' (only_fr on), _, h2, by rw [putAll_size]; exact e2, fun j s hj hs q u hu => ?_⟩
  rw [putAll_get _ _ _ _ (by simp [m9]; omega), if_neg (by simp [m9]; omega)]
  exact e3 j s (by omega) hs q u hu
theorem m9_one : m9.all (·.oneCell') = true := by simp [m9, Value.oneCell']
def m8 : List Value := [.int .i64 (-8), .int .i64 0, .int .i64 0, .bool false]
theorem m8_one : ∀ u ∈ m8, u.oneCell' = true := by
  intro u hu
  simp only [m8, List.mem_cons, List.not_mem_nil, or_false] at hu
  rcases hu with rfl | rfl | rfl | rfl <;> rfl
theorem m8_cells {w : World} {g : Nat} (h : w.heap[g]? = some (.cells #[.int .i64 (-8), .int .i64 0, .int .i64 0, .bool false] 42 (0, 0))) : ∀ j u, m8[j]? = some u → w.cell? ((⟨g, 0, none⟩ : Addr).add j) = some u := by
  intro j u hu
  rw [Addr.add_lit]
  simp only [World.cell?, h, Nat.zero_add]
  simpa [m8] using hu
/-- the first list, k of it struck out -/
def R1 (w wr : World) (va : Value) (B k n : Nat) (L : List Sl) : Prop :=
  (n = 0 ∧ va = .slice none 0 0 ∧ Fr (fun i => va.ownBlock = some i) w wr) ∨ ∃ g cap, va = .slice (some ⟨g, 0, none⟩) n cap ∧ B ≤ g ∧ n ≤ cap ∧ cap ≤ maxLen ∧ AR w wr g n cap k L
theorem r1_own {w wr : World} {va : Value} {B k n : Nat} {L : List Sl} (h : R1 w wr va B k n L) : (∃ xs, wr.ownsRow B 42 4 va n xs) ∧ Fr (fun i => va.ownBlock = some i) w wr := by
  rcases h with ⟨rfl, rfl, f⟩ | ⟨g, cap, rfl, hB, h1, h2, ar⟩
  · exact ⟨⟨[], World.ownsRow_nil _ _ _ _⟩, f⟩
  · obtain ⟨cur, e1, e2, _⟩ := ar.hb
    exact ⟨⟨cur.toList.take (n * 4), by simp [e2]; omega, .inr ⟨g, cap, cur, rfl, hB, e1, h1, h2, e2, rfl⟩⟩, ar.f.weaken fun i _ e => by rw [e]; rfl⟩
theorem r1_new {w : World} {va : Value} {B n : Nat} {L : List Sl} (h : w.ownsRow B 42 4 va n (slv L)) : R1 w w va B 0 n L := by
  have hl := h.1
  rw [slv_len] at hl
  rcases h.2 with ⟨rfl, h0⟩ | ⟨g, cap, cur, rfl, hB, hb, h1, h2, h3, h4⟩
  · exact .inl ⟨h0, rfl, Fr.refl _ _⟩
  · refine .inr ⟨g, cap, rfl, hB, h1, h2, Fr.refl _ _, cur, hb, h3, fun j s _ hs q u hu => ?_⟩
    have hq : q < 4 := by have := (List.getElem?_eq_some_iff.1 hu).1; simpa [slc] using this
    have hj := (List.getElem?_eq_some_iff.1 hs).1
    have := slv_get hs hu
    rw [← h4, List.getElem?_take, if_pos (by omega)] at this
    rw [← this]; simp
theorem st_grow {w wr w5 : World} {O : Nat → Prop} {v v5 : Value} {ob : Obj} (f : Fr O w wr) (hv : ∀ q, v.ownBlock = some q → O q ∨ w.heap.size ≤ q) (gr : (wr.alloc ob).grownBy w5 v.ownBlock) (hat : v5.ownBlock = v.ownBlock ∨ v5.ownBlock = some (wr.alloc ob).heap.size) : Fr O w w5 ∧ ∀ q, v5.ownBlock = some q → O q ∨ w.heap.size ≤ q := by
  have f1 : Fr O w (wr.alloc ob) := f.then ((Below.refl _ _).alloc (Nat.le_refl _) _)
  refine ⟨⟨gr.os.trans f1.os, gr.tape.trans f1.tape, gr.output.trans f1.output, Nat.le_trans f1.size gr.size, fun i hi hn => (gr.block i (Nat.lt_of_lt_of_le hi f1.size) (fun e => ?_)).trans (f1.block i hi hn)⟩, fun q hq => ?_⟩
  · rcases hv i e.symm with h | h
    · exact hn h
    · omega
  · rcases hat with e | e
    · rw [e] at hq; exact hv q hq
    · rw [e] at hq; cases hq; exact .inr f1.size
set_option maxRecDepth 100000 in
set_option maxHeartbeats 4000000 in
theorem str_same (B : Nat) (va : Value) (b : Option Addr) (cb n : Nat) (L : List Sl) (w : World) (oa : w.ownsRow B 42 4 va n (slv L)) (sb : SlA w b n cb L) (hne : ∀ g, va.ownBlock = some g → ∀ q, b = some q → q.block ≠ g) (hB : B ≤ w.heap.size) (hL : n ≤ 1000000) :
    Calls Try.prog 22 #[va, .slice b n cb] w (fun e w' => e = .returned (.bool true) ∧ Fr (fun i => va.ownBlock = some i) w w') := by
  obtain ⟨I, Z, hi, hz, hsz, hby, hzs⟩ := info5 slot_info
  have hl := oa.1
  rw [slv_len] at hl
  obtain ⟨aa, ca, rfl, ca1, ca2⟩ := own_form oa
  have R0 := Lib.hid (r1_new oa)
  have SB := Lib.hid sb
  have cb1 := sb.le
  have cb2 := sb.small
  have NE := Lib.hid hne
  have HL := Lib.hid hl
  clear oa sb hne hl
  go_enter Try.func22, Try.ntmps22
  go_wp2_with fail
  go_loopw [5] (fun i wr => ∃ k : Nat, i = .int .i64 k ∧ k ≤ n ∧ R1 w wr (.slice aa n ca) B k n L) (fun i _ => n - (intOf i).toNat)
  case atStart => exact ⟨0, rfl, by omega, R0.out⟩
  case round =>
    obtain ⟨k, rfl, hk, R⟩ := hrel
    have HR := Lib.hid R
    clear R R0
    by_cases hlt : k < n
    · obtain ⟨g, hv, hBg, h1, h2, ar⟩ : ∃ g, aa = some ⟨g, 0, none⟩ ∧ B ≤ g ∧ n ≤ ca ∧ ca ≤ maxLen ∧ AR w wr g n ca k L := by
        rcases HR.out with ⟨h0, _⟩ | ⟨g, cap, hv, h⟩
        · omega
        · cases hv; exact ⟨g, rfl, h⟩
      subst hv
      have hk64 : (k : Int) < (n : Int) := by omega
      obtain ⟨bb, s, rfl, hb, hx, A⟩ := SB.out.at hlt
      have bg : bb ≠ g := NE.out g rfl _ rfl
      have keep : ∀ o, wr.cell? ⟨bb, o, none⟩ = w.cell? ⟨bb, o, none⟩ := fun o => World.cell?_of_block (w := w) (a := ⟨bb, o, none⟩) (ar.f.block bb hb bg)
      obtain ⟨cur, hc, cs, cl⟩ := ar.hb
      have d := fun q u hu => cl k s (Nat.le_refl _) hx q u hu
      have a0 := (blk_cell hc (k * 4)).trans (d 0 _ rfl)
      have a1 := (blk_cell hc (k * 4 + 1)).trans (d 1 _ rfl)
      have a2 := (blk_cell hc (k * 4 + 2)).trans (d 2 _ rfl)
      have a3 := (blk_cell hc (k * 4 + 3)).trans (d 3 _ rfl)
      have c0 := (keep _).trans A.c0
      have c1 := (keep _).trans A.c1
      have c2 := (keep _).trans A.c2
      have c3 := (keep _).trans A.c3
      have gl := (Array.getElem?_eq_some_iff.1 hc).1
      have bl : bb < wr.heap.size := Nat.lt_of_lt_of_le hb ar.f.size
      have ARH := Lib.hid ar
      have HC := Lib.hid hc
      have CS := Lib.hid (show k * 4 + m9.size ≤ cur.size by rw [cs]; show k * 4 + 4 ≤ ca * 4; omega)
      obtain ⟨st, sf, so, sl⟩ := s
      simp only at a0 a1 a2 a3 c0 c1 c2 c3
      clear A keep hc cs cl d hx ar hb
      go_wp2_with fail
      go_quiet (fail)
      go_wp2_with (refine wpList_store_at rfl (ty := 42) (x := .tmp 30) (y := .tmp 29) rfl (g := g) (j := k * 4) (cells := m9) rfl rfl HC.out (by kernel_rfl) CS.out m9_one ?_; intro w4 hg4 on4; have NX := Lib.hid ((ARH.out.draw _).next (show k * 4 + 4 ≤ ca * 4 by omega) HC.out hg4 on4); clear hg4 on4)
      go_roundw
      case rel => exact ⟨k + 1, by go_num, by omega, .inr ⟨g, ca, rfl, hBg, h1, h2, NX.out⟩⟩
      case measure => simp only [intOf]; omega
    · obtain rfl : k = n := by omega
      obtain ⟨⟨xs, ox⟩, fx⟩ := r1_own HR.out
      have OX := Lib.hid ox
      have FX := Lib.hid fx
      clear HR ox fx
      go_wp2_with fail
      go_loopw [0, 6] (fun v0 vi wr2 => ∃ (m : Nat) (ys : List Value), vi = .int .i64 m ∧ m ≤ 9 ∧ wr2.ownsRow B 42 4 v0 (k + m) ys ∧ Fr (fun i => (Value.slice aa k ca).ownBlock = some i) w wr2 ∧ ∀ q, v0.ownBlock = some q → (Value.slice aa k ca).ownBlock = some q ∨ w.heap.size ≤ q) (fun _ vi _ => 9 - (intOf vi).toNat)
      case atStart => exact ⟨0, xs, rfl, by omega, OX.out, FX.out, fun q hq => .inl hq⟩
      case round =>
        obtain ⟨m, ys, rfl, hm, oy, fy, hown⟩ := hrel
        obtain ⟨ab, cc, rfl, q1, q2⟩ := own_form oy
        have OY := Lib.hid oy
        have FY := Lib.hid fy
        have HO := Lib.hid hown
        have zb := Nat.le_trans hB fy.size
        clear oy fy hown OX FX
        by_cases h9 : m < 9
        · have h9i : (m : Int) < 9 := by omega
          go_wp2_with (refine wpList_append_own_at _ rfl (.tmp 35) (.tmp 37) 45 rfl B 42 I Z 4 32 Try.und45 hi hz hsz hby hzs (by decide) (.slice ab (k + m) cc) (k + m) ys rfl (OY.out.alloc _) ⟨wr.heap.size, 0, none⟩ 1 1 m8 rfl rfl (m8_cells (Deep.blk_alloc_new wr _)) m8_one (by simp only [maxLen]; omega) (by omega) (by rw [al_size]; omega) ?_; intro v5 w5 ow gr _ hat; have NX := Lib.hid (st_grow FY.out HO.out gr hat); have OW := Lib.hid ow; obtain ⟨a5, c5, rfl, _⟩ := own_form ow; clear ow gr hat)
          go_roundw
          case rel => exact ⟨m + 1, _, by go_num, by omega, OW.out, NX.out.1, NX.out.2⟩
          case measure => simp only [intOf]; omega
        · obtain rfl : m = 9 := by omega
          go_wp2_with fail
          go_ret
          exact ⟨by go_num, FY.out⟩
end Go.Proofs.Ytgdkmakmdomdbaa
