import Derived.Test.YtgdkmakmdomdbaaPnWk
import Derived.Test.YtgdkmakmdomdbaaPnFb
import Derived.Test.YtgdkmakmdomdbaaPnSt
import Derived.Test.YtgdkmakmdomdbaaPnPm
set_option autoImplicit false
set_option linter.unusedVariables false
namespace Go.Proofs.Ytgdkmakmdomdbaa
open Go.RowKit Lk Pn
/-! the closed facts of PlanKnown -/
def kp0 : Pl := newP [⟨2, 1, 0⟩, ⟨2, 1, 9⟩]
def kp1 : Pl := (nextP kp0).1
def kq0 : Pl := newP [⟨2, 2, 0⟩, ⟨3, 1, 0⟩]
def kr0 : Pl := newP [⟨4, 2, 0⟩]
def kr1 : Pl := (untilP kr0 1).1
def ks0 : Pl := newP []
def ks1 : Pl := (untilP ks0 5).1
def kt0 : Pl := newP [⟨2, 1, 0⟩]
def kt1 : Pl := (untilP kt0 1).1
def kt2 : Pl := (setP kt1 0 ⟨3, 1, 0⟩).1
def kt3 : Pl := (untilP kt2 9).1
theorem kf_p0 : (nextP kp0).2 = (⟨1, 0, 1, false⟩, 0) := by kernel_rfl
theorem kf_p1 : (nextP kp1).2 = (⟨0, 1, 2, false⟩, 0) := by kernel_rfl
theorem kf_q : (untilP kq0 6).2 = [⟨0, 0, 2, false⟩, ⟨1, 2, 3, false⟩, ⟨0, 3, 5, true⟩, ⟨0, 5, 6, false⟩] := by kernel_rfl
theorem kf_r0 : (untilP kr0 1).2 = [⟨0, 0, 1, false⟩] := by kernel_rfl
theorem kf_r1 : (untilP kr1 9).2 = [⟨0, 1, 2, false⟩, ⟨0, 4, 6, false⟩, ⟨0, 8, 9, false⟩] := by kernel_rfl
theorem kf_s0 : (nextP ks0).2 = (⟨0, 0, 0, false⟩, 240) ∧ (nextP ks0).1 = ks0 := ⟨by kernel_rfl, by kernel_rfl⟩
theorem kf_s1 : (untilP ks0 5).2 = [] ∧ ks1.now = 5 := ⟨by kernel_rfl, by kernel_rfl⟩
theorem kf_s2 : (untilP ks1 3).2 = [] ∧ (untilP ks1 3).1.now = 5 := ⟨by kernel_rfl, by kernel_rfl⟩
theorem kf_s3 : loadF [] = (0, 1) := by kernel_rfl
theorem kf_t1 : (setP kt1 0 ⟨3, 1, 0⟩).2 = 0 := by kernel_rfl
theorem kf_t2 : (untilP kt2 9).2 = [⟨0, 2, 3, false⟩, ⟨0, 5, 6, false⟩, ⟨0, 8, 9, false⟩] := by kernel_rfl
theorem kf_t3 : (setP kt3 0 ⟨0, 0, 0⟩).2 = 240 := by kernel_rfl
theorem kf_e1 : newE [⟨0, 1, 0⟩] = 240 := by kernel_rfl
theorem kf_e2 : newE [⟨2, 3, 0⟩] = 240 := by kernel_rfl
theorem kf_e3 : newE [⟨1099511627777, 1, 0⟩] = 240 := by kernel_rfl
theorem kf_e4 : newE (List.replicate 257 ⟨0, 0, 0⟩) = 3 := by kernel_rfl
/-! late -/
def la0 : Pl := newP [⟨4, 4, 0⟩, ⟨1, 1, 0⟩]
def la1 : Pl := (untilP la0 7).1
theorem lf_a : (untilP la0 7).2 = [⟨1, 0, 1, false⟩, ⟨1, 1, 2, false⟩, ⟨1, 2, 3, false⟩, ⟨0, 3, 7, true⟩] := by kernel_rfl
theorem lf_b : (untilP la1 12).2 = [⟨1, 7, 8, true⟩, ⟨1, 8, 9, true⟩, ⟨1, 9, 10, true⟩, ⟨1, 10, 11, true⟩, ⟨0, 11, 12, true⟩] := by kernel_rfl
def lq0 : Pl := newP [⟨2, 1, 0⟩]
def lq1 : Pl := (untilP lq0 2).1
def lq2 : Pl := (setP lq1 0 ⟨5, 1, 0⟩).1
theorem lf_c : (setP lq1 0 ⟨5, 1, 0⟩).2 = 0 := by kernel_rfl
theorem lf_d : (untilP lq2 12).2 = [⟨0, 2, 3, false⟩, ⟨0, 4, 5, false⟩, ⟨0, 9, 10, false⟩] := by kernel_rfl
theorem lf_r : loadF [⟨1099511627689, 1, 0⟩, ⟨8388593, 1, 0⟩] = (0, 0) := by kernel_rfl
def lu0 : Pl := newP [⟨6, 6, 0⟩, ⟨2, 1, 0⟩]
def lu1 : Pl := (untilP lu0 8).1
def lu2 : Pl := (setP lu1 0 ⟨1000, 1, 0⟩).1
theorem lf_u : (untilP lu2 30).2 = [⟨1, 8, 9, true⟩, ⟨1, 9, 10, true⟩, ⟨1, 10, 11, true⟩, ⟨0, 11, 17, true⟩, ⟨1, 17, 18, true⟩, ⟨1, 18, 19, true⟩, ⟨1, 19, 20, true⟩, ⟨1, 20, 21, true⟩, ⟨1, 21, 22, true⟩, ⟨1, 22, 23, true⟩, ⟨1, 23, 24, false⟩, ⟨1, 24, 25, false⟩, ⟨0, 25, 26, false⟩, ⟨1, 26, 27, false⟩, ⟨1, 28, 29, false⟩] := by kernel_rfl
/-! far -/
def fv0 : Pl := newP [⟨1099511627776, 1099511627776, 0⟩, ⟨1099511627776, 1099511627776, 1⟩]
def fv1 : Pl := (nextP fv0).1
theorem ff_a : (nextP fv0).2 = (⟨1, 0, 1099511627776, false⟩, 0) := by kernel_rfl
theorem ff_b : (nextP fv1).2 = (⟨0, 1099511627776, 2199023255552, true⟩, 0) := by kernel_rfl
theorem ff_l : loadF [⟨1099511627776, 1099511627776, 0⟩, ⟨1099511627776, 1099511627776, 1⟩] = (2, 1) := by kernel_rfl
end Go.Proofs.Ytgdkmakmdomdbaa

set_option autoImplicit false
set_option linter.unusedVariables false
namespace Go.Proofs.Ytgdkmakmdomdbaa
open Go.RowKit Lk Pn
/-! lists that a law writes down -/
theorem ts_two (w : World) (t u : Tk) : Ts (w.alloc (.cells #[.int .i64 t.ev, .int .i64 t.lg, .int .i64 t.rk, .int .i64 u.ev, .int .i64 u.lg, .int .i64 u.rk] 26)) (some ⟨w.heap.size, 0, none⟩) 2 2 [t, u] := by
  have h := Deep.blk_alloc_new w (.cells #[.int .i64 t.ev, .int .i64 t.lg, .int .i64 t.rk, .int .i64 u.ev, .int .i64 u.lg, .int .i64 u.rk] 26)
  refine ⟨rfl, by omega, by omega, .inr ⟨w.heap.size, 0, rfl, by rw [al_size]; omega, fun j x hx => ?_⟩⟩
  match j, hx with
  | 0, hx => cases hx; exact ⟨blk_cell h 0, blk_cell h 1, blk_cell h 2⟩
  | 1, hx => cases hx; exact ⟨blk_cell h 3, blk_cell h 4, blk_cell h 5⟩
theorem ts_one (w : World) (t : Tk) : Ts (w.alloc (.cells #[.int .i64 t.ev, .int .i64 t.lg, .int .i64 t.rk] 26)) (some ⟨w.heap.size, 0, none⟩) 1 1 [t] := by
  have h := Deep.blk_alloc_new w (.cells #[.int .i64 t.ev, .int .i64 t.lg, .int .i64 t.rk] 26)
  refine ⟨rfl, by omega, by omega, .inr ⟨w.heap.size, 0, rfl, by rw [al_size]; omega, fun j x hx => ?_⟩⟩
  match j, hx with
  | 0, hx => cases hx; exact ⟨blk_cell h 0, blk_cell h 1, blk_cell h 2⟩
theorem sla_blk {w : World} {g : Nat} {L : List Sl} (h : w.heap[g]? = some (.cells (slv L).toArray 42 (0, 0))) (hL : L.length ≤ 1000000) : SlA w (some ⟨g, 0, none⟩) L.length L.length L := by
  refine ⟨rfl, Nat.le_refl _, by omega, .inr ⟨g, rfl, blk_lt h, fun j s hs => ?_⟩⟩
  have get : ∀ q u, (slc s).toList[q]? = some u → w.cell? ⟨g, j * 4 + q, none⟩ = some u := fun q u hu => by
    rw [blk_cell h]
    have := slv_get hs hu
    simpa using this
  exact ⟨get 0 _ rfl, get 1 _ rfl, get 2 _ rfl, get 3 _ rfl⟩
theorem sla_lit (w : World) (L : List Sl) (hL : L.length ≤ 1000000) : SlA (w.alloc (.cells (slv L).toArray 42)) (some ⟨w.heap.size, 0, none⟩) L.length L.length L := sla_blk (Deep.blk_alloc_new w _) hL
end Go.Proofs.Ytgdkmakmdomdbaa

set_option autoImplicit false
set_option linter.unusedVariables false
namespace Go.Proofs.Ytgdkmakmdomdbaa
open Go.RowKit Lk Pn
/-! several plans and several lists of stretches, all apart: one word for the whole world of a law -/
def Ap (a b : Value × List Sl) : Prop := ∀ g, a.1.ownBlock = some g → b.1.ownBlock ≠ some g
structure Wd (B K : Nat) (w0 w : World) (ps : List P1) (rs : List (Value × List Sl)) : Prop where
  p : PSs B w ps
  inv : ∀ x ∈ ps, Inv K x.st
  own : ∀ r ∈ rs, w.ownsRow B 42 4 r.1 r.2.length (slv r.2)
  off : ∀ r ∈ rs, ∀ g, r.1.ownBlock = some g → Off ps g
  dis : rs.Pairwise Ap
  b : Below B w0 w
  hB : B ≤ w.heap.size
theorem own_low {w : World} {B B' E sz n : Nat} {v : Value} {xs : List Value} (h : w.ownsRow B' E sz v n xs) (hB : B ≤ B') : w.ownsRow B E sz v n xs := by
  refine ⟨h.1, h.2.imp id ?_⟩
  rintro ⟨g, cap, cur, h0, h1, h2⟩
  exact ⟨g, cap, cur, h0, Nat.le_trans hB h1, h2⟩
theorem wd_nil (w : World) : Wd w.heap.size 1 w w [] [] :=
  ⟨PSs.nil _ _, fun x hx => by simp at hx, fun x hx => by simp at hx, fun x hx => by simp at hx, List.Pairwise.nil, Below.refl _ _, Nat.le_refl _⟩
theorem Wd.below {B K : Nat} {w0 w w' : World} {ps : List P1} {rs : List (Value × List Sl)} (h : Wd B K w0 w ps rs) (b : Below w.heap.size w w') : Wd B K w0 w' ps rs :=
  ⟨h.p.below b, h.inv, fun r hr => own_keep (h.own r hr) fun g hg => b.block g (own_lt (h.own r hr) hg).2, h.off, h.dis, h.b.trans (b.mono h.hB), Nat.le_trans h.hB b.size⟩
theorem Wd.al {B K : Nat} {w0 w : World} {ps : List P1} {rs : List (Value × List Sl)} (h : Wd B K w0 w ps rs) (ob : Obj) : Wd B K w0 (w.alloc ob) ps rs := h.below ((Below.refl _ _).alloc (Nat.le_refl _) _)
theorem Wd.up {B K K' : Nat} {w0 w : World} {ps : List P1} {rs : List (Value × List Sl)} (h : Wd B K w0 w ps rs) (hK : K ≤ K') : Wd B K' w0 w ps rs := ⟨h.p, fun x hx => (h.inv x hx).mono hK, h.own, h.off, h.dis, h.b, h.hB⟩
/-- without one of the lists -/
theorem Wd.drop {B K : Nat} {w0 w : World} {ps : List P1} {pre post : List (Value × List Sl)} {r : Value × List Sl} (h : Wd B K w0 w ps (pre ++ r :: post)) : Wd B K w0 w ps (pre ++ post) := by
  have sub : ∀ x, x ∈ pre ++ post → x ∈ pre ++ r :: post := fun x hx => by
    rcases List.mem_append.1 hx with h | h <;> simp [h]
  refine ⟨h.p, h.inv, fun x hx => h.own x (sub x hx), fun x hx => h.off x (sub x hx), ?_, h.b, h.hB⟩
  have d := h.dis
  rw [List.pairwise_append, List.pairwise_cons] at d
  rw [List.pairwise_append]
  exact ⟨d.1, d.2.1.2, fun a ha c hc => d.2.2 a ha c (by simp [hc])⟩
theorem wd_new {B K : Nat} {w0 w : World} {ps : List P1} {rs : List (Value × List Sl)} (h : Wd B K w0 w ps rs) (hK : 1 ≤ K) (a : Option Addr) (n cap : Nat) (L : List Tk) (ts : Ts w a n cap L) (hE : newE L = 0) :
    Calls Try.prog 10 #[.slice a n cap] w (fun e w' => ∃ p S, e = .returned (.tuple #[.pointer (some ⟨p, 0, none⟩), .int .i64 0]) ∧ Wd B K w0 w' (ps ++ [⟨S, p, newP L⟩]) rs) := by
  refine (c_new B a n cap L w ts h.hB hE).mono ?_
  rintro e w' ⟨p, S, he, h1, hS, b⟩
  have hb := h.below b
  refine ⟨p, S, he, h.p.new b h1 hS, fun x hx => ?_, hb.own, fun r hr g hg x hx => ?_, h.dis, hb.b, hb.hB⟩
  · rcases List.mem_append.1 hx with hx | hx
    · exact h.inv x hx
    · obtain rfl := List.mem_singleton.1 hx; exact (inv_new hE).mono hK
  · rcases List.mem_append.1 hx with hx | hx
    · exact h.off r hr g hg x hx
    · obtain rfl := List.mem_singleton.1 hx
      intro e
      have := hS g e
      have := (own_lt (h.own r hr) hg).2
      omega
/-- a call that turns one of the plans and gives no list -/
theorem Wd.turn {B K : Nat} {w0 w w' : World} {pre post : List P1} {S S' : Nat → Prop} {p : Nat} {st st' : Pl} {rs : List (Value × List Sl)} (h : Wd B K w0 w (pre ++ ⟨S, p, st⟩ :: post) rs)
    (h1 : PSs B w' (pre ++ ⟨S', p, st'⟩ :: post)) (hS : ∀ k, S' k → S k ∨ w.heap.size ≤ k) (f : Fr S w w') (b : Below B w w') (hi : Inv K st') : Wd B K w0 w' (pre ++ ⟨S', p, st'⟩ :: post) rs := by
  refine ⟨h1, fun x hx => ?_, fun r hr => own_keep (h.own r hr) fun g hg => f.block g (own_lt (h.own r hr) hg).2 (h.off r hr g hg ⟨S, p, st⟩ (by simp)), fun r hr g hg => (h.off r hr g hg).turn (own_lt (h.own r hr) hg).2 hS, h.dis, h.b.trans b, Nat.le_trans h.hB b.size⟩
  rcases List.mem_append.1 hx with hx | hx
  · exact h.inv x (List.mem_append_left _ hx)
  · rcases List.mem_cons.1 hx with rfl | hx
    · exact hi
    · exact h.inv x (by simp [hx])
theorem wd_until {B K : Nat} {w0 w : World} {pre post : List P1} {S : Nat → Prop} {p : Nat} {st : Pl} {rs : List (Value × List Sl)} (h : Wd B K w0 w (pre ++ ⟨S, p, st⟩ :: post) rs) (tick : Int) (hK : 1 ≤ K) (hM : K ≤ 4194304) :
    Calls Try.prog 18 #[.pointer (some ⟨p, 0, none⟩), .int .i64 tick] w (fun e w' => ∃ v S', e = .returned v ∧ Wd B K w0 w' (pre ++ ⟨S', p, (untilP st tick).1⟩ :: post) (rs ++ [(v, (untilP st tick).2)])) := by
  refine (t_until B K hM hK pre post S p st tick w h.p h.hB (h.inv ⟨S, p, st⟩ (by simp))).mono ?_
  rintro e w' ⟨v, S', he, ow, h1, off, hS, f, b⟩
  have h2 := h.turn h1 hS f b (inv_until hK (h.inv ⟨S, p, st⟩ (by simp)))
  refine ⟨v, S', he, h1, h2.inv, fun r hr => ?_, fun r hr => ?_, ?_, h2.b, h2.hB⟩
  · rcases List.mem_append.1 hr with hr | hr
    · exact h2.own r hr
    · obtain rfl := List.mem_singleton.1 hr; exact own_low ow h.hB
  · rcases List.mem_append.1 hr with hr | hr
    · exact h2.off r hr
    · obtain rfl := List.mem_singleton.1 hr; exact off
  · rw [List.pairwise_append]
    refine ⟨h.dis, List.pairwise_singleton _ _, fun a ha c hc g hg hg2 => ?_⟩
    obtain rfl := List.mem_singleton.1 hc
    have := (own_lt (h.own a ha) hg).2
    have := (own_lt ow hg2).1
    omega
theorem wd_next {B K : Nat} {w0 w : World} {pre post : List P1} {S : Nat → Prop} {p : Nat} {st : Pl} {rs : List (Value × List Sl)} (h : Wd B K w0 w (pre ++ ⟨S, p, st⟩ :: post) rs) (hK : 1 ≤ K) (hM : K ≤ 4194304) (hl : st.l.length ≤ 4194304) :
    Calls Try.prog 17 #[.pointer (some ⟨p, 0, none⟩)] w (fun e w' => ∃ S', e = .returned (.tuple #[.agg (slc (nextP st).2.1), .int .i64 (nextP st).2.2]) ∧ Wd B K w0 w' (pre ++ ⟨S', p, (nextP st).1⟩ :: post) rs) := by
  refine (t_next B K hM hK pre post S p st w h.p h.hB (h.inv ⟨S, p, st⟩ (by simp)) hl).mono ?_
  rintro e w' ⟨S', he, h1, hS, f, b⟩
  exact ⟨S', he, h.turn h1 hS f b (inv_next hK (h.inv ⟨S, p, st⟩ (by simp)))⟩
theorem wd_set {B K : Nat} {w0 w : World} {pre post : List P1} {S : Nat → Prop} {p : Nat} {st : Pl} {rs : List (Value × List Sl)} (h : Wd B K w0 w (pre ++ ⟨S, p, st⟩ :: post) rs) (i : Int) (t : Tk) (hK : 1 ≤ K) (hM : K ≤ 4194304) :
    Calls Try.prog 19 #[.pointer (some ⟨p, 0, none⟩), .int .i64 i, .agg #[.int .i64 t.ev, .int .i64 t.lg, .int .i64 t.rk]] w (fun e w' => ∃ S', e = .returned (.int .i64 (setP st i t).2) ∧ Wd B (K + 1) w0 w' (pre ++ ⟨S', p, (setP st i t).1⟩ :: post) rs) := by
  refine (t_set B K hM pre post S p st i t w h.p h.hB (h.inv ⟨S, p, st⟩ (by simp))).mono ?_
  rintro e w' ⟨S', he, h1, hS, f, b⟩
  exact ⟨S', he, (h.up (Nat.le_succ _)).turn h1 hS f b (inv_set hK (h.inv ⟨S, p, st⟩ (by simp)))⟩
theorem wd_load {B K : Nat} {w0 w : World} {pre post : List P1} {S : Nat → Prop} {p : Nat} {st : Pl} {rs : List (Value × List Sl)} (h : Wd B K w0 w (pre ++ ⟨S, p, st⟩ :: post) rs) (hK : 1 ≤ K) (hM : K ≤ 4194304) :
    Calls Try.prog 13 #[.pointer (some ⟨p, 0, none⟩)] w (fun e w' => e = .returned (.tuple #[.int .i64 (loadF (tks st.l)).1, .int .i64 (loadF (tks st.l)).2]) ∧ Wd B K w0 w' (pre ++ ⟨S, p, st⟩ :: post) rs) := by
  refine (c_load B K hM p S st w h.p.get (h.inv ⟨S, p, st⟩ (by simp))).mono ?_
  rintro e w' ⟨he, b⟩
  exact ⟨he, h.below b⟩
theorem wd_now {B K : Nat} {w0 w : World} {pre post : List P1} {S : Nat → Prop} {p : Nat} {st : Pl} {rs : List (Value × List Sl)} (h : Wd B K w0 w (pre ++ ⟨S, p, st⟩ :: post) rs) :
    Calls Try.prog 15 #[.pointer (some ⟨p, 0, none⟩)] w (fun e w' => e = .returned (.int .i64 st.now) ∧ w = w') := c_now B p S st w h.p.get
/-- the block of one of the lists changed: without that list -/
theorem Wd.fr {B K : Nat} {w0 w w' : World} {ps : List P1} {pre post : List (Value × List Sl)} {va : Value} {L : List Sl} (h : Wd B K w0 w ps (pre ++ (va, L) :: post)) (f : Fr (fun i => va.ownBlock = some i) w w') : Wd B K w0 w' ps (pre ++ post) := by
  have ov := h.own (va, L) (by simp)
  have h2 := h.drop
  have d := h.dis
  rw [List.pairwise_append, List.pairwise_cons] at d
  have offv := h.off (va, L) (by simp)
  have bl : Below B w w' := f.below h.hB fun k hk => (own_lt ov hk).1
  refine ⟨⟨fun x hx => (h.p.all x hx).apart f fun k hk e => offv k e x hx hk, h.p.dis⟩, h.inv, fun r hr => own_keep (h2.own r hr) fun g hg => f.block g (own_lt (h2.own r hr) hg).2 fun e => ?_, h2.off, h2.dis, h.b.trans bl, Nat.le_trans h.hB bl.size⟩
  rcases List.mem_append.1 hr with hr | hr
  · exact d.2.2 r hr (va, L) (by simp) g hg e
  · exact d.2.1.1 r hr g e hg
/-- one of the lists struck out -/
theorem wd_str {B K : Nat} {w0 w : World} {ps : List P1} {pre post : List (Value × List Sl)} {va : Value} {L : List Sl} (h : Wd B K w0 w ps (pre ++ (va, L) :: post)) (b : Option Addr) (cb : Nat) (sb : SlA w b L.length cb L) (hne : ∀ g, va.ownBlock = some g → ∀ q, b = some q → q.block ≠ g) (hL : L.length ≤ 1000000) :
    Calls Try.prog 22 #[va, .slice b L.length cb] w (fun e w' => e = .returned (.bool true) ∧ Wd B K w0 w' ps (pre ++ post)) := by
  refine (str_same B va b cb L.length L w (h.own (va, L) (by simp)) sb hne h.hB hL).mono ?_
  rintro e w' ⟨he, f⟩
  exact ⟨he, h.fr f⟩
/-- one more list -/
theorem Wd.add {B K : Nat} {w0 w : World} {ps : List P1} {rs : List (Value × List Sl)} {v : Value} {L : List Sl} (h : Wd B K w0 w ps rs) (ow : w.ownsRow B 42 4 v L.length (slv L)) (off : ∀ g, v.ownBlock = some g → Off ps g) (dis : ∀ r ∈ rs, Ap r (v, L)) : Wd B K w0 w ps (rs ++ [(v, L)]) := by
  refine ⟨h.p, h.inv, fun r hr => ?_, fun r hr => ?_, ?_, h.b, h.hB⟩
  · rcases List.mem_append.1 hr with hr | hr
    · exact h.own r hr
    · obtain rfl := List.mem_singleton.1 hr; exact ow
  · rcases List.mem_append.1 hr with hr | hr
    · exact h.off r hr
    · obtain rfl := List.mem_singleton.1 hr; exact off
  · rw [List.pairwise_append]
    refine ⟨h.dis, List.pairwise_singleton _ _, fun a ha c hc => ?_⟩
    obtain rfl := List.mem_singleton.1 hc
    exact dis a ha
theorem Wd.none {B K : Nat} {w0 w : World} {ps : List P1} {rs : List (Value × List Sl)} (h : Wd B K w0 w ps rs) : Wd B K w0 w ps (rs ++ [(.slice none 0 0, [])]) :=
  h.add (World.ownsRow_nil _ _ _ _) (fun g hg => by cases hg) (fun r hr g _ e => by cases e)
/-- the last list grew -/
theorem Wd.grow {B K : Nat} {w0 w w5 : World} {ob : Obj} {ps : List P1} {rs : List (Value × List Sl)} {v v5 : Value} {L L5 : List Sl} (h : Wd B K w0 w ps (rs ++ [(v, L)])) (ow : w5.ownsRow B 42 4 v5 L5.length (slv L5)) (gr : (w.alloc ob).grownBy w5 v.ownBlock) (hat : v5.ownBlock = v.ownBlock ∨ v5.ownBlock = some (w.alloc ob).heap.size) : Wd B K w0 w5 ps (rs ++ [(v5, L5)]) := by
  have f : Fr (fun i => v.ownBlock = some i) w w5 := (st_grow (O := fun i => v.ownBlock = some i) (Fr.refl _ _) (fun q hq => .inl hq) gr hat).1
  have h2 : Wd B K w0 w5 ps (rs ++ []) := h.fr f
  rw [List.append_nil] at h2
  have h3 := h.al ob
  refine h2.add ow (fun g hg => ?_) (fun r hr g hg e => ?_)
  · rcases hat with e | e
    · exact h.off (v, L) (by simp) g (by rw [← e]; exact hg)
    · rw [hg] at e; cases e
      intro x hx hk
      have := (h3.p.all x hx).inS _ hk
      omega
  · rcases hat with e2 | e2
    · have d := h.dis
      rw [List.pairwise_append] at d
      exact d.2.2 r hr (v, L) (by simp) g hg (by rw [← e2]; exact e)
    · simp only at e
      rw [e] at e2; cases e2
      have := (own_lt (h3.own r (by simp [hr])) hg).2
      omega
theorem wd_lit {B K : Nat} {w0 w : World} {ps : List P1} {pre post : List (Value × List Sl)} {va : Value} {L : List Sl} (h : Wd B K w0 w ps (pre ++ (va, L) :: post)) (hL : L.length ≤ 1000000) :
    Calls Try.prog 22 #[va, .slice (some ⟨w.heap.size, 0, none⟩) L.length L.length] (w.alloc (.cells (slv L).toArray 42)) (fun e w' => e = .returned (.bool true) ∧ Wd B K w0 w' ps (pre ++ post)) :=
  wd_str (h.al _) _ _ (sla_lit w L hL) (fun g hg q hq e => by
    have := (own_lt (h.own (va, L) (by simp)) hg).2
    cases hq; simp only at e; omega) hL
end Go.Proofs.Ytgdkmakmdomdbaa
