import Derived.Test.YtdngkeefbpffcaaFlP
import Derived.Test.YtdngkeefbpffcaaRsC
import Derived.Test.YtdngkeefbpffcaaFlL
import Derived.Test.YtdngkeefbpffcaaFlI
import Derived.Test.YtdngkeefbpffcaaFlO
import Derived.Laws.BitsAllLaws
import Derived.Test.YtdngkeefbpffcaaFlG
import Derived.Deep.DeepCutAuto
import Derived.Deep.CutBlock
import Derived.BigRegion
import Derived.RegionTactic
import Derived.Deep.RegionWith
set_option autoImplicit false
set_option linter.unusedVariables false
namespace Lk
open Go Go.RowKit
section
variable {P : Program} {J : World → Prop} {Q : Exit → Act → World → Prop}
/-- wp_region_J, the first world kept -/
theorem wp_region_J1 {id : Nat} {a : Act} {w : World} {l : List Oper} (n : Nat) (J : World → Prop) (hm : P.follows .mixedOrders = true) (hn : l.length = n) (hs : Region.noSelect l.toArray = true) (hJ : J { w with drawn := w.drawn + 1 })
    (h : ∀ w1, Below w.heap.size w w1 → J w1 → Region.noSelect l.toArray = true → wpAnyJ P .any l.toArray J (fun a' w' => Q .normal a' w') n (Array.replicate n false) a w1) : (Code.region id l.toArray true).wp P Q a w := by
  refine wp_region_any hm (wpAny_of_J (J := J) (Q' := fun a' w' => Q .normal a' w') (fun _ _ h => h) _ _ _ _ hJ ?_)
  have := h { w with drawn := w.drawn + 1 } ⟨rfl, rfl, rfl, Nat.le_refl _, fun _ _ => rfl⟩ hJ hs
  subst hn
  simpa using this
end
end Lk

set_option autoImplicit false
set_option linter.unusedVariables false
namespace Pl
open Lk
/-! plots' keys, over words -/
/-- where a float stands in the order -/
def plF (x : Nat) : Nat := if Nan x then 18446744073709551615 else if x / 9223372036854775808 = 1 then 18446744073709551615 - x else x + 9223372036854775808
structure Pt where
  range : Nat
  speed : Nat
  power : Nat
  bearing : Nat
  time : Nat
def powF (x : Nat) : Nat := if Nan x then 18446744073709551615 else 18446744073709551615 - plF x
def key (p : Pt) : List Nat := [powF p.power, plF p.range, plF p.speed, plF p.bearing, plF p.time]
def cmpN (a b : Nat) : Int := if a < b then -1 else if b < a then 1 else 0
def cmpL : List Nat → List Nat → Int
  | a :: l, b :: m => if cmpN a b = 0 then cmpL l m else cmpN a b
  | _, _ => 0
end Pl
namespace Go.Proofs.Ytdngkeefbpffcaa
open Go.RowKit Lk Pl
theorem wp_forget {P : Program} {c : Code} {Q : Exit → Act → World → Prop} {a : Act} {w : World} (F : World → Prop) (h : F w) (k : ∀ w1, F w1 → Code.wp P c Q a w1) : Code.wp P c Q a w := k w h
@[go_sem] theorem run_bits (x : Nat) (w : World) : (callFunc 48 #[.float .f64 x]).run Try.prog w = .ok (.value (.int .u64 x)) w :=
  by kernel_rfl
theorem ne_self (x : Nat) : (FloatKind.f64.format.order x x != some Ordering.eq) = decide (Nan x) := by
  rw [fmt64, Bool.eq_iff_iff, bne_iff_ne, ne_eq, o_self]; simp
theorem or_top {x : Nat} (h : x < 9223372036854775808) : bits .or .u64 (x : Int) 9223372036854775808 = ((x + 9223372036854775808 : Nat) : Int) := by
  have := u64_or_nat x 9223372036854775808 (by omega) (by omega)
  rw [show ((9223372036854775808 : Nat) : Int) = 9223372036854775808 from rfl] at this
  have h2 := Nat.two_pow_add_eq_or_of_lt (i := 63) (b := x) (by omega) 1
  rw [Nat.mul_one] at h2
  rw [this, Nat.or_comm, show (9223372036854775808 : Nat) = 2 ^ 63 from rfl, ← h2, Nat.add_comm]
theorem xor_max {x : Nat} (h : x < 18446744073709551616) : bits .xor .u64 IntKind.u64.max (x : Int) = ((18446744073709551615 - x : Nat) : Int) := by
  have := u64_xor_nat 18446744073709551615 x (by omega) h
  rw [show ((18446744073709551615 : Nat) : Int) = IntKind.u64.max from rfl] at this
  rw [this]
  have e : (18446744073709551615 ^^^ x : Nat) = 18446744073709551615 - x := by
    have := BitVec.toNat_not (x := BitVec.ofNat 64 x)
    rw [← BitVec.allOnes_xor, BitVec.toNat_xor, BitVec.toNat_allOnes, BitVec.toNat_ofNat, Nat.mod_eq_of_lt h] at this
    exact this
  rw [e]
theorem place_walk (x : Nat) (hx : x < 2 ^ 64) (w : World) : Calls Try.prog 67 #[.float .f64 x] w (fun e w' => e = .returned (.int .u64 (plF x)) ∧ w = w') := by
  have q1 := ne_self x
  by_cases hn : Nan x
  · rw [decide_eq_true hn] at q1
    have H : Hid (plF x = 18446744073709551615) := Lib.hid (by unfold plF; rw [if_pos hn])
    clear hn
    go_enter Try.func67, Try.ntmps67
    go_wp2_with fail
    go_ret
    exact ⟨by rw [H.out]; rfl, rfl⟩
  · rw [decide_eq_false hn] at q1
    go_enter Try.func67, Try.ntmps67
    go_wp2_with fail
    · have hh := ‹((x : Int) / 9223372036854775808 == 1) = true›
      have hh2 : x / 9223372036854775808 = 1 := by rw [beq_iff_eq] at hh; omega
      go_ret
      refine ⟨?_, rfl⟩
      show Ending.returned (.int .u64 (bits .xor .u64 IntKind.u64.max (x : Int))) = _
      rw [xor_max hx]; unfold plF; rw [if_neg hn, if_pos hh2]
    · have hh := ‹((x : Int) / 9223372036854775808 == 1) = false›
      have hh2 : ¬ x / 9223372036854775808 = 1 := by rw [beq_eq_false_iff_ne] at hh; omega
      go_ret
      refine ⟨?_, rfl⟩
      show Ending.returned (.int .u64 (bits .or .u64 (x : Int) 9223372036854775808)) = _
      rw [or_top (by omega)]; unfold plF; rw [if_neg hn, if_neg hh2]
theorem isn_walk (a : Int) (w : World) : Calls Try.prog 75 #[.int .u64 a] w (fun e w' => e = .returned (.bool false) ∧ w = w') := by
  go_enter Try.func75, Try.ntmps75
  go_wp2_with fail
  go_ret
  exact ⟨rfl, rfl⟩
theorem cmp_walk (a b : Nat) (w : World) : Calls Try.prog 66 #[.int .u64 a, .int .u64 b] w (fun e w' => e = .returned (.int .i64 (cmpN a b)) ∧ w = w') := by
  have I1 := isn_walk a
  have I2 := isn_walk b
  go_enter Try.func66, Try.ntmps66
  go_wp2_with (first | (go_at_call 75; refine (I1 _).mono ?_; rintro e w' ⟨rfl, rfl⟩) | (go_at_call 75; refine (I2 _).mono ?_; rintro e w' ⟨rfl, rfl⟩))
  · go_ret
    exact ⟨by unfold cmpN; rw [if_pos ‹a < b›]; rfl, rfl⟩
  · go_ret
    exact ⟨by unfold cmpN; rw [if_neg ‹¬ a < b›, if_pos ‹b < a›]; rfl, rfl⟩
  · go_ret
    exact ⟨by unfold cmpN; rw [if_neg ‹¬ a < b›, if_neg ‹¬ b < a›]; rfl, rfl⟩
end Go.Proofs.Ytdngkeefbpffcaa

set_option autoImplicit false
set_option linter.unusedVariables false
namespace Go.Proofs.Ytdngkeefbpffcaa
open Go.RowKit Lk Pl
structure PtLt (p : Pt) : Prop where
  range : p.range < 2 ^ 64
  speed : p.speed < 2 ^ 64
  power : p.power < 2 ^ 64
  bearing : p.bearing < 2 ^ 64
  time : p.time < 2 ^ 64
@[reducible] def pv (p : Pt) : Value := .agg #[.float .f64 p.range, .float .f64 p.speed, .float .f64 p.power, .float .f64 p.bearing, .float .f64 p.time]
def u64s (l : List Nat) : List Value := l.map (fun (n : Nat) => Value.int .u64 (n : Int))
theorem eq_self (x : Nat) : (FloatKind.f64.format.order x x == some Ordering.eq) = decide (¬ Nan x) := by
  rw [fmt64, Bool.eq_iff_iff, beq_iff_eq, o_self]; simp
def TP (f : FuncId) (args : Array Value) (u : Value) (w : World) : Prop := f = 67 → ∃ x, args = #[.float .f64 x] ∧ u = .int .u64 (plF x)
theorem tp_67 (x : Nat) (hx : x < 2 ^ 64) (w : World) : Calls Try.prog 67 #[.float .f64 x] w (fun e w'' => ∃ u, e = .returned u ∧ TP 67 #[.float .f64 x] u w'' ∧ Ext w w'') :=
  (place_walk x hx w).mono fun e w' ⟨he, hw⟩ => ⟨_, he, fun _ => ⟨x, rfl, rfl⟩, by subst hw; exact Below.refl _ _⟩
theorem plF_lt (x : Nat) (hx : x < 2 ^ 64) : plF x < 18446744073709551616 := by
  unfold plF
  split
  · omega
  · split <;> omega
set_option maxHeartbeats 4000000 in
theorem key_walk (p : Pt) (hp : PtLt p) (w : World) : Calls Try.prog 40 #[pv p] w (fun e w' => e = .returned (.agg (u64s (key p)).toArray) ∧ Below w.heap.size w w') := by
  have HP := Lib.hid hp
  have W1 := place_walk p.power hp.power
  have XM := xor_max (plF_lt p.power hp.power)
  have q1 := eq_self p.power
  obtain ⟨K, hK⟩ : ∃ K, K = powF p.power := ⟨_, rfl⟩
  have bx : ∀ w : World, (w.alloc (.cells #[.float .f64 p.range, .float .f64 p.speed, .float .f64 p.power, .float .f64 p.bearing, .float .f64 p.time] 28)).heap.size = w.heap.size + 1 := fun w => by simp
  clear hp
  have hh : ((FloatKind.f64.format.order p.power p.power == some Ordering.eq) = false ∧ ((plF p.power : Nat) : Int) = (K : Int)) ∨
      ((FloatKind.f64.format.order p.power p.power == some Ordering.eq) = true ∧ bits BinOp.xor IntKind.u64 (if IntKind.u64.signed = true then -1 else IntKind.u64.max) ((plF p.power : Nat) : Int) = (K : Int)) := by
    by_cases hn : Nan p.power
    · left
      exact ⟨by rw [q1]; simpa using hn, by rw [hK]; unfold powF plF; rw [if_pos hn, if_pos hn]⟩
    · right
      refine ⟨by rw [q1]; simpa using hn, ?_⟩
      show bits BinOp.xor IntKind.u64 IntKind.u64.max ((plF p.power : Nat) : Int) = (K : Int)
      rw [XM, hK]; unfold powF; rw [if_neg hn]
  have HK := Lib.hid hK
  clear q1 hK XM bx
  rcases hh with ⟨q1, XM⟩ | ⟨q1, XM⟩
  all_goals
    go_enter Try.func40, Try.ntmps40
    go_upto_region 4 with (go_at_call 67; refine (W1 _).mono ?_; rintro e w' ⟨rfl, rfl⟩)
    try rw [XM]
    refine wp_forget (fun wx => wx.heap[w.heap.size]? = some (.cells #[.float .f64 p.range, .float .f64 p.speed, .float .f64 p.power, .float .f64 p.bearing, .float .f64 p.time] 28 (0, 0)) ∧ wx.heap[w.heap.size + 1]? = some (.cells #[.int .u64 0, .int .u64 0, .int .u64 0, .int .u64 0, .int .u64 0] 91 (0, 0)) ∧ Below w.heap.size w wx) ⟨?_, ?_, by (repeat' (first | exact Below.refl _ _ | refine below_drewN ?_ _ | refine Below.setCell ?_ (by first | exact Nat.le_refl _ | (simp; done) | (simp; omega)) _ | refine Below.alloc ?_ (by first | exact Nat.le_refl _ | (simp; done) | (simp; omega)) _))⟩ ?_
    · exact ((Below.refl _ _).alloc (Nat.le_refl _) _).block _ (by simp) |>.trans (Deep.blk_alloc_new w _)
    · have := Deep.blk_alloc_new (w.alloc (.cells #[.float .f64 p.range, .float .f64 p.speed, .float .f64 p.power, .float .f64 p.bearing, .float .f64 p.time] 28)) (.cells #[.int .u64 0, .int .u64 0, .int .u64 0, .int .u64 0, .int .u64 0] 91)
      simpa using this
    rintro w1 ⟨bp, bn, bb⟩
    have BB := Lib.hid bb
    have BN := Lib.hid bn
    have lb := (Array.getElem?_eq_some_iff.1 bp).1
    have p0 := cell_of_heap bp 0
    have p1 := cell_of_heap bp 1
    have p3 := cell_of_heap bp 3
    have p4 := cell_of_heap bp 4
    simp only [List.getElem?_toArray, List.getElem?_cons_zero, List.getElem?_cons_succ] at p0 p1 p3 p4
    clear bp bn bb W1 q1 XM
    refine wp_region_G_tail 14 TP (by kernel_rfl) (by kernel_rfl) ?_
    simp only [List.take, List.drop]
    repeat' (refine wpG_step' (fun K hA hK => ?_); go_simp; first | (refine bothG_value hA (v := ?_) (fun w' hw' => ?_) ?_; rotate_left; (· go_simp; rfl); (refine hK _ _ ?_; clear hK hA K)) | (refine bothG_call (f := 67) (args := ?_) (fun w' => ?_) (fun w' _ => ?_) ?_; rotate_left; (· go_simp; rfl); (· exact tp_67 _ (by first | exact HP.out.range | exact HP.out.speed | exact HP.out.bearing | exact HP.out.time) w'); (intro u y hu; obtain ⟨x', ha', rfl⟩ := hu rfl; cases ha'; refine hK _ _ ?_; clear hK hA K)))
    refine wpG_nil ?_
    intro w2 hb hF
    have bn := (hb.block _ (Array.getElem?_eq_some_iff.1 BN.out).1).trans BN.out
    have B2 := Lib.hid (BB.out.trans (hb.mono BB.out.size))
    clear hb hF p0 p1 p3 p4 lb BN BB
    refine wpList_store_at rfl rfl (g := w.heap.size + 1) (j := 0) rfl rfl bn (by kernel_rfl) (Nat.le_of_ble_eq_true rfl) (by simp [Value.oneCell']) ?_
    intro w3 b3 o3
    rw [putAll_full (by rfl)] at b3
    have B3 := Lib.hid (B2.out.trans (o3.below (by omega)))
    have r0 := cell_of_heap b3 0
    have r1 := cell_of_heap b3 1
    have r2 := cell_of_heap b3 2
    have r3 := cell_of_heap b3 3
    have r4 := cell_of_heap b3 4
    simp only [List.getElem?_toArray, List.getElem?_cons_zero, List.getElem?_cons_succ] at r0 r1 r2 r3 r4
    clear b3 o3 bn B2
    go_wp2_with fail
    trace_state
    refine bodyPost_ret (v := ?_) ?_ rfl ?_
    rotate_left
    · simp [results, Try.results40, go_sem, r0, r1, r2, r3, r4]; rfl
    · exact ⟨by unfold u64s key; rw [← HK.out]; rfl, B3.out⟩
end Go.Proofs.Ytdngkeefbpffcaa

set_option autoImplicit false
set_option linter.unusedVariables false
namespace Go.Proofs.Ytdngkeefbpffcaa
open Go.RowKit Lk Pl
/-- a block that holds words -/
def Uw (w : World) (g : Nat) (l : List Nat) : Prop := ∀ (j x : Nat), l[j]? = some x → w.cell? ⟨g, j, none⟩ = some (.int .u64 (x : Int))
theorem cmpL_drop {l m : List Nat} {k a b : Nat} (hl : l[k]? = some a) (hm : m[k]? = some b) : cmpL (l.drop k) (m.drop k) = if cmpN a b = 0 then cmpL (l.drop (k + 1)) (m.drop (k + 1)) else cmpN a b := by
  obtain ⟨h1, rfl⟩ := List.getElem?_eq_some_iff.1 hl
  obtain ⟨h2, rfl⟩ := List.getElem?_eq_some_iff.1 hm
  rw [List.drop_eq_getElem_cons h1, List.drop_eq_getElem_cons h2, cmpL]
set_option maxHeartbeats 2000000 in
theorem compare_walk (g g' : Nat) (l m : List Nat) (w : World) (hl : l.length = 5) (hm : m.length = 5) (lg : g < w.heap.size) (lg' : g' < w.heap.size) (hu : Uw w g l) (hu' : Uw w g' m) :
    Calls Try.prog 65 #[.slice (some ⟨g, 0, none⟩) 5 5, .slice (some ⟨g', 0, none⟩) 5 5, .func (.func 66) #[] #[]] w (fun e w' => e = .returned (.int .i64 (cmpL l m)) ∧ w = w') := by
  have hcf : ∀ (args : Array Value) (w : World), (callFunc 66 args).run Try.prog w = .ok (.enter 66 args) w := fun _ _ => by kernel_rfl
  have U := Lib.hid (And.intro hu hu')
  have HL := Lib.hid (And.intro hl hm)
  clear hu hu' hl hm
  go_enter Try.func65, Try.ntmps65
  go_wp2_with fail
  go_loopw [13] (fun i wr => ∃ k : Nat, i = .int .i64 k ∧ k ≤ 5 ∧ cmpL (l.drop k) (m.drop k) = cmpL l m ∧ w = wr) (fun i _ => 5 - (intOf i).toNat)
  case atStart => exact ⟨0, rfl, by omega, rfl, rfl⟩
  case round =>
    obtain ⟨k, rfl, hk, hf, rfl⟩ := hrel
    have HF := Lib.hid hf
    clear hf
    by_cases hlt : k < 5
    · obtain ⟨a, ha⟩ : ∃ a, l[k]? = some a := ⟨_, List.getElem?_eq_getElem (by rw [HL.out.1]; exact hlt)⟩
      obtain ⟨b, hb⟩ : ∃ b, m[k]? = some b := ⟨_, List.getElem?_eq_getElem (by rw [HL.out.2]; exact hlt)⟩
      have c0 := U.out.1 k a ha
      have c1 := U.out.2 k b hb
      have ST := Lib.hid (cmpL_drop ha hb)
      have k5 : (k : Int) < 5 := by omega
      clear ha hb
      go_wp2_with fail
      refine (cmp_walk a b _).mono ?_
      rintro e w1 ⟨rfl, rfl⟩
      by_cases h0 : cmpN a b = 0
      · have NX := Lib.hid (show cmpL (l.drop (k + 1)) (m.drop (k + 1)) = cmpL l m by rw [← HF.out, ST.out, if_pos h0])
        rw [h0]
        go_wp2_with fail
        go_roundw
        case rel => exact ⟨k + 1, by go_num, by omega, NX.out, trivial⟩
        case measure => simp only [intOf]; omega
      · have NX := Lib.hid (show cmpN a b = cmpL l m by rw [← HF.out, ST.out, if_neg h0])
        have hb : (cmpN a b != 0) = true := by rw [bne_iff_ne]; exact h0
        generalize cmpN a b = C at NX hb h0 ⊢
        go_wp2_with fail
        go_ret
        exact ⟨by rw [← NX.out]; rfl, rfl⟩
    · have e := Lib.hid (show cmpL l m = 0 by
        rw [← HF.out, List.drop_eq_nil_of_le (by rw [HL.out.1]; omega)]; cases m.drop k <;> rfl)
      go_wp2_with fail
      go_ret
      exact ⟨by rw [e.out]; rfl, rfl⟩
end Go.Proofs.Ytdngkeefbpffcaa
