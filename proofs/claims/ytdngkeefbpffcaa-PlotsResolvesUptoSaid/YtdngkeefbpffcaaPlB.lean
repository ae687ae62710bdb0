import Derived.Test.YtdngkeefbpffcaaPlA
import Derived.Test.YtdngkeefbpffcaaFlG
import Derived.Deep.DeepCutAuto
import Derived.Deep.CutBlock
import Derived.BigRegion
import Derived.RegionTactic
import Derived.Deep.RegionWith
set_option autoImplicit false
set_option linter.unusedVariables false
namespace Go.Proofs.Ytdngkeefbpffcaa
open Go.RowKit Lk Pl
structure PtLt (p : Pt) : Prop where
  range : p.range < 2 ^ 64
  speed : p.speed < 2 ^ 64
  power : p.power < 2 ^ 64
  bearing : p.bearing < 2 ^ 64
  time : p.time < 2 ^ 64
@[reducible] def pv (p : Pt) : Value := .agg #[.float .f64 p.range, .float .f64 p.speed, .float .f64 p.power, .float .f64 p.bearing, .float .f64 p.time]
def u64s (l : List Nat) : List Value := l.map (fun (n : Nat) => Value.int .u64 (n : Int))
theorem eq_self (x : Nat) : (FloatKind.f64.format.order x x == some Ordering.eq) = decide (¬ Nan x) := by
  rw [fmt64, Bool.eq_iff_iff, beq_iff_eq, o_self]; simp
def TP (f : FuncId) (args : Array Value) (u : Value) (w : World) : Prop := f = 67 → ∃ x, args = #[.float .f64 x] ∧ u = .int .u64 (plF x)
theorem tp_67 (x : Nat) (hx : x < 2 ^ 64) (w : World) : Calls Try.prog 67 #[.float .f64 x] w (fun e w'' => ∃ u, e = .returned u ∧ TP 67 #[.float .f64 x] u w'' ∧ Ext w w'') :=
  (place_walk x hx w).mono fun e w' ⟨he, hw⟩ => ⟨_, he, fun _ => ⟨x, rfl, rfl⟩, by subst hw; exact Below.refl _ _⟩
theorem plF_lt (x : Nat) (hx : x < 2 ^ 64) : plF x < 18446744073709551616 := by
  unfold plF
  split
  · omega
  · split <;> omega
set_option maxHeartbeats 4000000 in
theorem key_walk (p : Pt) (hp : PtLt p) (w : World) : Calls Try.prog 40 #[pv p] w (fun e w' => e = .returned (.agg (u64s (key p)).toArray) ∧ Below w.heap.size w w') := by
  have HP := Lib.hid hp
  have W1 := place_walk p.power hp.power
  have XM := xor_max (plF_lt p.power hp.power)
  have q1 := eq_self p.power
  obtain ⟨K, hK⟩ : ∃ K, K = powF p.power := ⟨_, rfl⟩
  have bx : ∀ w : World, (w.alloc (.cells #[.float .f64 p.range, .float .f64 p.speed, .float .f64 p.power, .float .f64 p.bearing, .float .f64 p.time] 28)).heap.size = w.heap.size + 1 := fun w => by simp
  clear hp
  have hh : ((FloatKind.f64.format.order p.power p.power == some Ordering.eq) = false ∧ ((plF p.power : Nat) : Int) = (K : Int)) ∨
      ((FloatKind.f64.format.order p.power p.power == some Ordering.eq) = true ∧ bits BinOp.xor IntKind.u64 (if IntKind.u64.signed = true then -1 else IntKind.u64.max) ((plF p.power : Nat) : Int) = (K : Int)) := by
    by_cases hn : Nan p.power
    · left
      exact ⟨by rw [q1]; simpa using hn, by rw [hK]; unfold powF plF; rw [if_pos hn, if_pos hn]⟩
    · right
      refine ⟨by rw [q1]; simpa using hn, ?_⟩
      show bits BinOp.xor IntKind.u64 IntKind.u64.max ((plF p.power : Nat) : Int) = (K : Int)
      rw [XM, hK]; unfold powF; rw [if_neg hn]
  have HK := Lib.hid hK
  clear q1 hK XM bx
  rcases hh with ⟨q1, XM⟩ | ⟨q1, XM⟩
  all_goals
    go_enter Try.func40, Try.ntmps40
    go_upto_region 4 with (go_at_call 67; refine (W1 _).mono ?_; rintro e w' ⟨rfl, rfl⟩)
    try rw [XM]
    refine wp_forget (fun wx => wx.heap[w.heap.size]? = some (.cells #[.float .f64 p.range, .float .f64 p.speed, .float .f64 p.power, .float .f64 p.bearing, .float .f64 p.time] 28 (0, 0)) ∧ wx.heap[w.heap.size + 1]? = some (.cells #[.int .u64 0, .int .u64 0, .int .u64 0, .int .u64 0, .int .u64 0] 91 (0, 0)) ∧ Below w.heap.size w wx) ⟨?_, ?_, by (repeat' (first | exact Below.refl _ _ | refine below_drewN ?_ _ | refine Below.setCell ?_ (by first | exact Nat.le_refl _ | (simp; done) | (simp; omega)) _ | refine Below.alloc ?_ (by first | exact Nat.le_refl _ | (simp; done) | (simp; omega)) _))⟩ ?_
    · exact ((Below.refl _ _).alloc (Nat.le_refl _) _).block _ (by simp) |>.trans (Deep.blk_alloc_new w _)
    · have := Deep.blk_alloc_new (w.alloc (.cells #[.float .f64 p.range, .float .f64 p.speed, .float .f64 p.power, .float .f64 p.bearing, .float .f64 p.time] 28)) (.cells #[.int .u64 0, .int .u64 0, .int .u64 0, .int .u64 0, .int .u64 0] 91)
      simpa using this
    rintro w1 ⟨bp, bn, bb⟩
    have BB := Lib.hid bb
    have BN := Lib.hid bn
    have lb := (Array.getElem?_eq_some_iff.1 bp).1
    have p0 := cell_of_heap bp 0
    have p1 := cell_of_heap bp 1
    have p3 := cell_of_heap bp 3
    have p4 := cell_of_heap bp 4
    simp only [List.getElem?_toArray, List.getElem?_cons_zero, List.getElem?_cons_succ] at p0 p1 p3 p4
    clear bp bn bb W1 q1 XM
    refine wp_region_G_tail 14 TP (by kernel_rfl) (by kernel_rfl) ?_
    simp only [List.take, List.drop]
    repeat' (refine wpG_step' (fun K hA hK => ?_); go_simp; first | (refine bothG_value hA (v := ?_) (fun w' hw' => ?_) ?_; rotate_left; (· go_simp; rfl); (refine hK _ _ ?_; clear hK hA K)) | (refine bothG_call (f := 67) (args := ?_) (fun w' => ?_) (fun w' _ => ?_) ?_; rotate_left; (· go_simp; rfl); (· exact tp_67 _ (by first | exact HP.out.range | exact HP.out.speed | exact HP.out.bearing | exact HP.out.time) w'); (intro u y hu; obtain ⟨x', ha', rfl⟩ := hu rfl; cases ha'; refine hK _ _ ?_; clear hK hA K)))
    refine wpG_nil ?_
    intro w2 hb hF
    have bn := (hb.block _ (Array.getElem?_eq_some_iff.1 BN.out).1).trans BN.out
    have B2 := Lib.hid (BB.out.trans (hb.mono BB.out.size))
    clear hb hF p0 p1 p3 p4 lb BN BB
    refine wpList_store_at rfl rfl (g := w.heap.size + 1) (j := 0) rfl rfl bn (by kernel_rfl) (Nat.le_of_ble_eq_true rfl) (by simp [Value.oneCell']) ?_
    intro w3 b3 o3
    rw [putAll_full (by rfl)] at b3
    have B3 := Lib.hid (B2.out.trans (o3.below (by omega)))
    have r0 := cell_of_heap b3 0
    have r1 := cell_of_heap b3 1
    have r2 := cell_of_heap b3 2
    have r3 := cell_of_heap b3 3
    have r4 := cell_of_heap b3 4
    simp only [List.getElem?_toArray, List.getElem?_cons_zero, List.getElem?_cons_succ] at r0 r1 r2 r3 r4
    clear b3 o3 bn B2
    go_wp2_with fail
    trace_state
    refine bodyPost_ret (v := ?_) ?_ rfl ?_
    rotate_left
    · simp [results, Try.results40, go_sem, r0, r1, r2, r3, r4]; rfl
    · exact ⟨by unfold u64s key; rw [← HK.out]; rfl, B3.out⟩
end Go.Proofs.Ytdngkeefbpffcaa
