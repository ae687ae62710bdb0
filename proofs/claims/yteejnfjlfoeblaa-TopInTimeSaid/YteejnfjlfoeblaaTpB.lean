import Derived.Test.YteejnfjlfoeblaaTpA
import Derived.Test.YteejnfjlfoeblaaPnRo
import Derived.Deep.DeepCutAuto
import Derived.Deep.CutBlock
set_option autoImplicit false
set_option linter.unusedVariables false
namespace Go.Proofs.Yteejnfjlfoeblaa
open Go.RowKit Lk Pn
/-- a plan, the list told in goes, the tasks' own list -/
structure R1 (p : Nat) (w wr : World) (S : Nat → Prop) (st : Pl) (B : Nat) (v : Value) (parts : List Sl) (a9 : Option Addr) (N c9 : Nat) (F : List Tk) : Prop where
  b : Below w.heap.size w wr
  B0 : w.heap.size ≤ B
  B1 : B ≤ wr.heap.size
  ps : PS w.heap.size wr S p st
  own : wr.ownsRow B 38 4 v parts.length (slv parts)
  vn : ∀ g, v.ownBlock = some g → ¬ S g
  tl : Ts wr a9 N c9 F
  tg : ∀ g o, a9 = some ⟨g, o, none⟩ → ¬ S g ∧ g < B
theorem Ts.blk {w w' : World} {a : Option Addr} {n cap : Nat} {L : List Tk} (h : Ts w a n cap L) (hs : w.heap.size ≤ w'.heap.size) (e : ∀ g o, a = some ⟨g, o, none⟩ → g < w.heap.size → w'.heap[g]? = w.heap[g]?) : Ts w' a n cap L :=
  ⟨h.len, h.le, h.small, h.cells.imp id fun ⟨g, off, ha, hg, hc⟩ => ⟨g, off, ha, Nat.lt_of_lt_of_le hg hs, fun j t ht => (hc j t ht).of_block (e g off ha hg)⟩⟩
theorem R1.next {p : Nat} {w wr w1 w2 : World} {S S' : Nat → Prop} {st st' : Pl} {B : Nat} {v x v' : Value} {parts M : List Sl} {a9 : Option Addr} {N c9 : Nat} {F : List Tk} (h : R1 p w wr S st B v parts a9 N c9 F) (ox : w1.ownsRow wr.heap.size 38 4 x M.length (slv M)) (h1 : PS w.heap.size w1 S' p st') (hS : ∀ k, S' k → S k ∨ wr.heap.size ≤ k)
    (f : Fr S wr w1) (hv : w2.ownsRow B 38 4 v' (parts ++ M).length (slv (parts ++ M))) (gr : w1.grownBy w2 v.ownBlock) (hat : v'.ownBlock = v.ownBlock ∨ v'.ownBlock = some w1.heap.size) : R1 p w w2 S' st' B v' (parts ++ M) a9 N c9 F := by
  have z1 := f.size
  have z2 := gr.size
  have qin := h1.inS
  have B1 := h.B1
  have vb : ∀ g, v.ownBlock = some g → ¬ S' g ∧ B ≤ g ∧ g < wr.heap.size := fun g hg => by
    obtain ⟨a1, a2⟩ := h.own.lt g hg
    exact ⟨fun e => (hS g e).elim (h.vn g hg) (fun e => by omega), a1, a2⟩
  have b1 := h.b.trans (h.ps.frb f h.b.size)
  refine ⟨?_, h.B0, by omega, h1.blocks z2 fun k hk => gr.block k (qin k hk) (fun e => (vb k e.symm).1 hk), hv, fun g hg => ?_, ?_, fun g o e => ⟨fun e2 => (hS g e2).elim (h.tg g o e).1 (fun e3 => by have := (h.tg g o e).2; omega), (h.tg g o e).2⟩⟩
  · refine b1.trans ⟨gr.os, gr.tape, gr.output, gr.size, fun i hi => gr.block i (by have := b1.size; omega) fun e => ?_⟩
    have := (vb i e.symm).2.1
    have := h.B0
    omega
  · rcases hat with e | e
    · rw [e] at hg; exact (vb g hg).1
    · rw [e] at hg
      cases hg
      exact fun e => by have := qin _ e; omega
  · refine (h.tl.blk z1 fun g o e hg => f.block g hg (h.tg g o e).1).blk z2 fun g o e hg => gr.block g hg fun e2 => ?_
    have := (vb g e2.symm).2.1
    have := (h.tg g o e).2
    omega
/-- what the loop over the stretches reads of its own copy of one -/
structure SJ3 (g : Nat) (q sf so : Int) (w x : World) : Prop where
  b : Below w.heap.size w x
  c0 : x.cell? ⟨g, 0, none⟩ = some (.int .i64 q)
  c1 : x.cell? ⟨g, 1, none⟩ = some (.int .i64 sf)
  c2 : x.cell? ⟨g, 2, none⟩ = some (.int .i64 so)
  lt : g < x.heap.size
theorem SJ3.drew {g : Nat} {q sf so : Int} {w x : World} (h : SJ3 g q sf so w x) : SJ3 g q sf so w { x with drawn := x.drawn + 1 } := ⟨h.b.drew, h.c0, h.c1, h.c2, h.lt⟩
theorem SJ3.set {g G : Nat} {q sf so : Int} {w x : World} (h : SJ3 g q sf so w x) (hG : G ≠ g) (hw : w.heap.size ≤ G) (i : Nat) (v : Value) : SJ3 g q sf so w (x.setCell ⟨G, i, none⟩ v) := by
  have e : (x.setCell ⟨G, i, none⟩ v).heap[g]? = x.heap[g]? := (Fr.set (T := (· = G)) (Fr.refl _ x) rfl v).block g h.lt (fun e => hG e.symm)
  have c : ∀ o, (x.setCell ⟨G, i, none⟩ v).cell? ⟨g, o, none⟩ = x.cell? ⟨g, o, none⟩ := fun o => by unfold World.cell?; simp only [e]
  exact ⟨h.b.setCell hw _, (c 0).trans h.c0, (c 1).trans h.c1, (c 2).trans h.c2, by rw [size_setCell]; exact h.lt⟩
theorem TR.keep {E : Nat} {w wr w2 : World} {g : Nat} {f : Nat → Int} (h : TR E w wr g f) (b : Below wr.heap.size wr w2) : TR E w w2 g f := by
  have l := h.lt
  obtain ⟨cur, e, e1, e2⟩ := h.cl
  exact ⟨h.b.trans (b.mono h.b.size), h.g0, cur, (b.block g l).trans e, e1, e2⟩
theorem sj3_new {N G : Nat} {w6 wr : World} {f : Nat → Int} (h : TR N w6 wr G f) (q sf so : Int) (sb : Bool) : TR N w6 (wr.alloc (.cells #[.int .i64 q, .int .i64 sf, .int .i64 so, .bool sb] 38)) G f ∧ SJ3 wr.heap.size q sf so w6 (wr.alloc (.cells #[.int .i64 q, .int .i64 sf, .int .i64 so, .bool sb] 38)) := by
  have b : Below wr.heap.size wr (wr.alloc (.cells #[.int .i64 q, .int .i64 sf, .int .i64 so, .bool sb] 38)) := (Below.refl _ wr).alloc (Nat.le_refl _) _
  have n := Deep.blk_alloc_new wr (.cells #[.int .i64 q, .int .i64 sf, .int .i64 so, .bool sb] 38)
  exact ⟨h.keep b, h.b.trans (b.mono h.b.size), blk_cell n 0, blk_cell n 1, blk_cell n 2, by rw [al_size]; omega⟩
set_option maxRecDepth 100000 in
set_option maxHeartbeats 4000000 in
theorem time_law (aA : Option Addr) (nA kA : Nat) (A : List Int) (aB : Option Addr) (nB kB : Nat) (B : List Int) (aC : Option Addr) (nC kC : Nat) (C : List Int) (aD : Option Addr) (nD kD : Nat) (D : List Int) (w : World)
    (hA : SI w aA nA kA A) (hB : SI w aB nB kB B) (hC : SI w aC nC kC C) (hD : SI w aD nD kD D) :
    Calls Try.prog 3 #[.slice aA nA kA, .slice aB nB kB, .slice aC nC kC, .slice aD nD kD] w (fun e w' => e = .returned (.bool true) ∧ Below w.heap.size w w') := by
  have HA := Lib.hid hA
  have HB := Lib.hid hB
  have HC := Lib.hid hC
  have HD := Lib.hid hD
  have a63 : nA ≤ 9223372036854775807 := Nat.le_trans hA.le hA.small
  have b63 : nB ≤ 9223372036854775807 := Nat.le_trans hB.le hB.small
  have c63 : nC ≤ 9223372036854775807 := Nat.le_trans hC.le hC.small
  have d63 : nD ≤ 9223372036854775807 := Nat.le_trans hD.le hD.small
  have a64 := hA.le
  have b64 := hB.le
  have c64 := hC.le
  have d64 := hD.le
  have a65 := hA.small
  have b65 := hB.small
  have c65 := hC.small
  have d65 := hD.small
  obtain ⟨I, Z, hi, hz, hsz, hby, hzs⟩ := info5 task_info
  clear hA hB hC hD
  go_enter Try.func3, Try.ntmps3
  go_upto_block 0 with fail
  go_cut [9, 10] (fun s9 s10 wx => ∃ (a9 : Option Addr) (N c9 : Nat) (al : Int), s9 = .slice a9 N c9 ∧ s10 = .int .i64 al ∧ al = (if N = 0 then 1 else 24) ∧ C1 w wx A B C (.slice a9 N c9) N)
  case first =>
    go_wp2_with fail
    go_loopw [9, 10, 11] (fun v al i wr => ∃ (k : Nat) (oa : Option Addr) (oc : Nat) (ax : Int), i = .int .i64 k ∧ k ≤ 6 ∧ k ≤ nA ∧ k ≤ nB ∧ k ≤ nC ∧ al = .int .i64 ax ∧ ax = (if k = 0 then 1 else 24) ∧ v = .slice oa k oc ∧ TpR w wr (.slice oa k oc) (tpK A B C k)) (fun _ _ i _ => 7 - (intOf i).toNat)
    case atStart => exact ⟨0, none, 0, 1, rfl, by omega, by omega, by omega, by omega, rfl, rfl, rfl, World.ownsRow_nil _ _ _ _, Below.refl _ _⟩
    case round =>
      obtain ⟨k, oa, oc, ax, rfl, k6, kA1, kB1, kC1, rfl, hax, rfl, R⟩ := hrel
      have HAX := Lib.hid hax
      have HR := Lib.hid R
      clear R
      have fin : Hid (∃ (a9 : Option Addr) (N c9 : Nat) (al : Int), Value.slice oa k oc = .slice a9 N c9 ∧ Value.int .i64 ax = .int .i64 al ∧ al = (if N = 0 then 1 else 24) ∧ C1 w wr A B C (.slice a9 N c9) N) := Lib.hid ⟨oa, k, oc, _, rfl, rfl, hax, HR.out, k6⟩
      clear hax
      by_cases hall : k < nA ∧ k < nB ∧ k < nC ∧ k < 6
      · obtain ⟨g1, g2, g3, g4⟩ := hall
        clear fin
        obtain ⟨b1, o1, x, rfl, l1, hx, c1⟩ := HA.out.at g1
        obtain ⟨b2, o2, y, rfl, l2, hy, c2⟩ := HB.out.at g2
        obtain ⟨b3, o3, z, rfl, l3, hz3, c3⟩ := HC.out.at g3
        have NXT := Lib.hid (tpK_succ hx hy hz3)
        have C2 := Lib.hid c2
        have C3 := Lib.hid c3
        have L2 := Lib.hid l2
        have L3 := Lib.hid l3
        obtain ⟨K, hK⟩ : ∃ K : Nat, fewE 6 x = (K : Int) + 1 := ⟨(fewE 6 x - 1).toNat, by have := fewE_bd 6 x (by omega); omega⟩
        have K6 : K < 6 := by have := fewE_bd 6 x (by omega); omega
        have HK := Lib.hid hK
        have ET := Lib.hid (show tpT x y z = ⟨evN K, fewE (evN K) y, z⟩ by unfold tpT tpE; rw [hK, show ((K : Int) + 1 - 1).toNat = K by omega])
        have EB := evN_bd K
        have EB1 := EB.1
        have EB2 := EB.2.1
        have cx := ((HR.out.b.alloc HR.out.b.size (.cells #[.int .i64 2, .int .i64 3, .int .i64 4, .int .i64 6, .int .i64 8, .int .i64 12] 3)).cell (p := ⟨b1, o1 + k, none⟩) l1).trans c1
        have lx := Nat.lt_of_lt_of_le l1 (HR.out.b.alloc HR.out.b.size (.cells #[.int .i64 2, .int .i64 3, .int .i64 4, .int .i64 6, .int .i64 8, .int .i64 12] 3)).size
        have ce := ev_cell wr K6
        have k64 : (k : Int) < 6 := by omega
        clear hx hy hz3 c1 c2 c3 l1 l2 l3 hK EB
        go_wp2_with fail
        refine (size_walk x 6 (by omega) (by omega) _).mono ?_
        rintro e w2 ⟨rfl, rfl⟩
        rw [HK.out]
        generalize evN K = E at ET EB1 EB2 ce
        go_wp2_with fail
        obtain ⟨wz, hwz⟩ : ∃ wz, wz = wr.alloc (.cells #[.int .i64 2, .int .i64 3, .int .i64 4, .int .i64 6, .int .i64 8, .int .i64 12] 3) := ⟨_, rfl⟩
        rw [← hwz]
        have RZ : Hid (TpR w wz (.slice oa k oc) (tpK A B C k)) := Lib.hid (by rw [hwz]; exact HR.out.below ((Below.refl _ wr).alloc (Nat.le_refl _) _))
        clear cx lx ce hwz HR
        refine wp_region_J1 16 (fun x => Below w.heap.size w x) (by kernel_rfl) rfl (by kernel_rfl) (RZ.out.b.drew) (fun w4 hb4 hJ hs => ?_)
        have HJ := Lib.hid hJ
        have R4 := Lib.hid (RZ.out.below hb4)
        clear hb4 hJ RZ
        (refine j_take 0 _ ?_ hs rfl rfl (by kernel_rfl) (by kernel_rfl) HJ.out (fun w' hw' => ?_) ?_; rotate_left; (· skip; go_simp; rfl); (go_simp))
        (refine j_take 1 _ ?_ hs rfl rfl (by kernel_rfl) (by kernel_rfl) HJ.out (fun w' hw' => ?_) ?_; rotate_left; (· skip; go_simp; rfl); (go_simp))
        (refine j_take 2 _ ?_ hs rfl rfl (by kernel_rfl) (by kernel_rfl) HJ.out (fun w' hw' => ?_) ?_; rotate_left; (· skip; go_simp; rfl); (go_simp))
        (refine j_take 3 _ ?_ hs rfl rfl (by kernel_rfl) (by kernel_rfl) HJ.out (fun w' hw' => ?_) ?_; rotate_left; (· skip; go_simp; rfl); (go_simp))
        (refine j_take 4 _ ?_ hs rfl rfl (by kernel_rfl) (by kernel_rfl) HJ.out (fun w' hw' => ?_) ?_; rotate_left; (· skip; go_simp; rfl); (go_simp))
        (refine j_take 5 _ ?_ hs rfl rfl (by kernel_rfl) (by kernel_rfl) HJ.out (fun w' hw' => ?_) ?_; rotate_left; (· have cy := (hw'.cell (p := ⟨b2, o2 + k, none⟩) L2.out).trans C2.out; go_simp; rfl); (go_simp))
        (refine j_take 6 _ ?_ hs rfl rfl (by kernel_rfl) (by kernel_rfl) HJ.out (fun w' hw' => ?_) ?_; rotate_left; (· skip; go_simp; rfl); (go_simp))
        (refine j_take 8 _ ?_ hs rfl rfl (by kernel_rfl) (by kernel_rfl) HJ.out (fun w' hw' => ?_) ?_; rotate_left; (· skip; go_simp; rfl); (go_simp))
        (refine j_take 9 _ ?_ hs rfl rfl (by kernel_rfl) (by kernel_rfl) HJ.out (fun w' hw' => ?_) ?_; rotate_left; (· skip; go_simp; rfl); (go_simp))
        (refine j_take 10 _ ?_ hs rfl rfl (by kernel_rfl) (by kernel_rfl) HJ.out (fun w' hw' => ?_) ?_; rotate_left; (· skip; go_simp; rfl); (go_simp))
        (refine j_take 11 _ ?_ hs rfl rfl (by kernel_rfl) (by kernel_rfl) HJ.out (fun w' hw' => ?_) ?_; rotate_left; (· have cy := (hw'.cell (p := ⟨b3, o3 + k, none⟩) L3.out).trans C3.out; go_simp; rfl); (go_simp))
        refine j_one 7 _ rfl (by kernel_rfl) HJ.out ?_
        go_wp2_with fail
        refine (size_walk y E EB1 (by omega) _).mono ?_
        rintro e w5 ⟨rfl, rfl⟩
        go_wp2_with fail
        refine ⟨HJ.out, ?_⟩
        (refine j_take 12 _ ?_ hs rfl rfl (by kernel_rfl) (by kernel_rfl) HJ.out (fun w' hw' => ?_) ?_; rotate_left; (· skip; go_simp; rfl); (go_simp))
        refine j_one 13 _ rfl (by kernel_rfl) HJ.out ?_
        go_wp2_with fail
        have J5 := Lib.hid (HJ.out.alloc HJ.out.size (.cells #[.int .i64 E, .int .i64 (fewE E y), .int .i64 z] 26))
        refine ⟨J5.out, ?_⟩
        have zb : w.heap.size ≤ w4.heap.size := HJ.out.size
        refine j_one 14 _ rfl (by kernel_rfl) J5.out ?_
        have tl := tpK_len A B C k
        refine wpList_append_own_at _ rfl (.tmp 58) (.tmp 71) 23 rfl w.heap.size 26 I Z 3 24 Try.und23 hi hz hsz hby hzs (by decide) (.slice oa k oc) (tpK A B C k).length (flatT (tpK A B C k)) rfl (R4.out.own.alloc _) ⟨w4.heap.size, 0, none⟩ 1 1 (tkl (tpT x y z)) rfl (by rw [ET.out]; rfl) (tkl_cells (by rw [ET.out]; exact Deep.blk_alloc_new w4 _)) (tkl_one _) (by rw [tpK_len]; simp only [maxLen]; omega) (by omega) (by rw [al_size]; omega) ?_
        clear tl
        intro v5 w5 ow gr _ hat
        have NX := Lib.hid (R4.out.next gr ow)
        obtain ⟨a5, c5, rfl, _⟩ := own_form ow
        clear ow gr hat
        go_wp2_with fail
        refine ⟨NX.out.b, ?_⟩
        refine j_one 15 _ rfl (by kernel_rfl) NX.out.b ?_
        go_wp2_with fail
        refine ⟨NX.out.b, j_done (by kernel_rfl) ?_⟩
        go_wp2_with fail
        go_roundw
        case rel => exact ⟨k + 1, a5, c5, 24, by go_num, by omega, by omega, by omega, by omega, rfl, by rw [if_neg (by omega)], by rw [tpK_len], by rw [NXT.out]; have := NX.out; rwa [tpK_len] at this⟩
        case measure => simp only [intOf]; omega
      · have hz : (¬ (k : Int) < (nA : Int)) ∨ ((k : Int) < (nA : Int) ∧ ¬ (k : Int) < (nB : Int)) ∨ ((k : Int) < (nA : Int) ∧ (k : Int) < (nB : Int) ∧ ¬ (k : Int) < (nC : Int)) ∨ ((k : Int) < (nA : Int) ∧ (k : Int) < (nB : Int) ∧ (k : Int) < (nC : Int) ∧ ¬ (k : Int) < 6) := by omega
        clear hall
        rcases hz with z | ⟨z1, z⟩ | ⟨z1, z2, z⟩ | ⟨z1, z2, z3, z⟩
        all_goals
          go_wp2_with fail
          go_meet
          exact fin.out
  case rest =>
    obtain ⟨a9, N, c9, al, rfl, rfl, hal, hc1⟩ := hcut
    have n6 := hc1.n6
    have R := hc1.r
    obtain ⟨F, hF⟩ : ∃ F, F = tpK A B C N := ⟨_, rfl⟩
    rw [← hF] at R
    have flen : F.length = N := by rw [hF]; exact tpK_len A B C N
    obtain ⟨a9', c9', e9, ts9⟩ := ts_own (show wc.ownsRow w.heap.size 26 3 (.slice a9 N c9) N (flatT F) from by have := R.own; rwa [flen] at this)
    cases e9
    have g9 : ∀ g o, a9 = some ⟨g, o, none⟩ → g < wc.heap.size := fun g o e => (R.own.lt g (by rw [e]; rfl)).2
    have FM := Lib.hid (show ∀ t ∈ F, mayT t = true ∧ t.ev ∣ 24 ∧ 1 ≤ t.ev ∧ t.ev ≤ 12 from hF ▸ tpK_may A B C N)
    have HE := Lib.hid (show newE F = 0 from hF ▸ tpK_new A B C n6)
    have LP := Lib.hid (show 0 < (loadF F).2 from hF ▸ tpK_load A B C n6)
    have FL := Lib.hid flen
    have T1 := Lib.hid ts9
    have B1 := Lib.hid R.b
    have G9 := Lib.hid g9
    have HAL := Lib.hid hal
    have al24 : 1 ≤ al ∧ al ≤ 24 := by rw [hal]; split <;> omega
    have q1 := ts9.le
    have q2 := ts9.small
    clear hc1 R hF flen ts9 g9 hal HA HB HC hi hz hsz hby hzs a63 b63 c63 a64 b64 c64 a65 b65 c65
    go_wp2_with fail
    refine (c_new w.heap.size a9 N c9 F _ T1.out B1.out.size HE.out).mono ?_
    rintro e w2 ⟨p, S1, rfl, h2, hs1, b2⟩
    have B2 := Lib.hid (B1.out.trans (b2.mono B1.out.size))
    have P2 := Lib.hid h2
    have T2 := Lib.hid (T1.out.keep b2)
    have G2 := Lib.hid (show ∀ g o, a9 = some ⟨g, o, none⟩ → ¬ S1 g ∧ g < w2.heap.size from fun g o e => ⟨fun e2 => by have := hs1 g e2; have := G9.out g o e; omega, Nat.lt_of_lt_of_le (G9.out g o e) b2.size⟩)
    have I2 := Lib.hid (inv_new HE.out)
    clear b2 h2 T1 B1 hs1 G9
    go_wp2_with fail
    refine (c_load w.heap.size 1 (by omega) p S1 _ w2 P2.out I2.out).mono ?_
    rintro e w3 ⟨rfl, b3⟩
    rw [tks_new]
    have LD := Lib.hid (fun h2 => ld_of_load (L := F) (fun t ht => (FM.out t ht).1) LP.out h2)
    have OV := Lib.hid (fun h2 => ov_of_load (L := F) (fun t ht => (FM.out t ht).1) LP.out h2)
    generalize loadF F = ld at LD OV LP ⊢
    obtain ⟨nm, dn⟩ := ld
    simp only at LD OV LP ⊢
    have ld1 : ¬ (dn : Int) < 1 := by have := LP.out; omega
    have R3 : Hid (R1 p w w3 S1 (newP F) w3.heap.size (.slice none 0 0) [] a9 N c9 F) := Lib.hid
      ⟨B2.out.trans (b3.mono B2.out.size), Nat.le_trans B2.out.size b3.size, Nat.le_refl _, P2.out.below b3, World.ownsRow_nil _ _ _ _, (fun g hg => by cases hg), T2.out.keep b3, fun g o e => ⟨(G2.out g o e).1, Nat.lt_of_lt_of_le (G2.out g o e).2 b3.size⟩⟩
    have I3 := Lib.hid (rwb_new (last := al) HE.out (by omega) (by omega))
    clear b3 P2 B2 T2 G2 I2 LP
    obtain ⟨B3, hB3⟩ : ∃ B3, B3 = w3.heap.size := ⟨_, rfl⟩
    rw [← hB3] at R3
    clear hB3
    go_upto_block 2 with fail
    go_cut [17] (fun s17 wx => ∃ (parts : List Sl) (at_ : Int) (Sq : Nat → Prop) (stq : Pl), R1 p w wx Sq stq B3 s17 parts a9 N c9 F ∧ RwB F al at_ stq parts)
    case first =>
      go_wp2_with fail
      go_loopw [17, 93] (fun vp i wr => ∃ (k : Nat) (parts : List Sl) (at_ : Int) (Sq : Nat → Prop) (stq : Pl), i = .int .i64 k ∧ k ≤ nD ∧ R1 p w wr Sq stq B3 vp parts a9 N c9 F ∧ RwB F al at_ stq parts) (fun _ i _ => nD - (intOf i).toNat)
      case atStart => exact ⟨0, [], 0, S1, newP F, rfl, by omega, R3.out, I3.out⟩
      case round =>
        obtain ⟨k, parts, at_, Sq, stq, rfl, hk, R, J⟩ := hrel
        have HR := Lib.hid R
        have HJ := Lib.hid J
        have NOW := Lib.hid J.i.now
        have n0 := J.i.inv.n0
        have n1 := J.i.now
        have ale := J.i.le
        rw [n1] at n0
        clear R J R3 I3 n1
        by_cases hlt : k < nD
        · obtain ⟨b4, o4, y, rfl, l4, hy, c4⟩ := HD.out.at hlt
          have cc := (HR.out.b.cell (p := ⟨b4, o4 + k, none⟩) l4).trans c4
          have ll := Nat.lt_of_lt_of_le l4 HR.out.b.size
          clear hy c4 l4
          by_cases hge : al ≤ at_
          · go_wp2_with fail
            refine (c_now w.heap.size p Sq _ wr HR.out.ps).mono ?_
            rintro e w9 ⟨rfl, rfl⟩
            rw [NOW.out]
            go_wp2_with fail
            go_meet
            exact ⟨parts, at_, Sq, stq, HR.out, HJ.out⟩
          · go_wp2_with fail
            refine (c_now w.heap.size p Sq _ wr HR.out.ps).mono ?_
            rintro e w9 ⟨rfl, rfl⟩
            rw [NOW.out]
            have fb := fewE_bd 9 y (by omega)
            obtain ⟨fy, hfy⟩ : ∃ fy, fy = fewE 9 y := ⟨_, rfl⟩
            rw [← hfy] at fb
            have HFY := Lib.hid hfy
            clear hfy
            go_wp2_with fail
            refine (c_now w.heap.size p Sq _ wr HR.out.ps).mono ?_
            rintro e w9 ⟨rfl, rfl⟩
            rw [NOW.out]
            go_wp2_with fail
            refine (size_walk y 9 (by omega) (by omega) _).mono ?_
            rintro e w9 ⟨rfl, rfl⟩
            rw [← HFY.out]
            go_wp2_with fail
            all_goals
              refine (c_until w.heap.size 1 (by omega) (Nat.le_refl _) p Sq stq _ wr HR.out.ps HR.out.b.size HJ.out.i.inv).mono ?_
              rintro e w5 ⟨v5, S5, rfl, ow50, h50, hs5, _, f5⟩
              obtain ⟨T, T1, ow5, h5⟩ : ∃ T, (at_ ≤ T ∧ T ≤ al) ∧ w5.ownsRow wr.heap.size 38 4 v5 (untilP stq T).2.length (slv (untilP stq T).2) ∧ PS w.heap.size w5 S5 p (untilP stq T).1 := ⟨_, by omega, ow50, h50⟩
              have OP := Lib.hid (own_keep (w' := w5) HR.out.own fun g hg => f5.block g (HR.out.own.lt g hg).2 (HR.out.vn g hg))
              have BZ := Lib.hid (Nat.le_trans HR.out.B1 f5.size)
              have STP := Lib.hid (rwb_step HJ.out T1.1 T1.2 (by omega))
              have pl := rise_len n0 HJ.out.i.rise
              obtain ⟨tl, htl⟩ : ∃ tl, tl = (untilP stq T).2 := ⟨_, rfl⟩
              rw [← htl] at ow5
              have tlen : tl.length ≤ 1000000 := by
                have h1 := rise_untilP HJ.out.i.inv (T := T) (by omega)
                have h2 := NOW.out
                have := rise_len (by omega) h1
                rw [← htl] at this; omega
              have HTL := Lib.hid htl
              have F5' := Lib.hid f5
              have P5 := Lib.hid h5
              have HS5 := Lib.hid hs5
              have OW5 := Lib.hid ow5
              clear ow5 h5 hs5 f5 htl cc ll ow50 h50
              go_wp2_with (refine wpList_append_sl rfl (.tmp 101) (.tmp 110) rfl B3 wr.heap.size _ _ parts tl rfl OP.out rfl OW5.out (by omega) tlen BZ.out ?_; intro v6 w6 ow6 gr6 hat6; have NX := Lib.hid (HR.out.next OW5.out P5.out HS5.out F5'.out ow6 gr6 hat6); clear ow6 gr6 hat6)
              go_roundw
              case rel => exact ⟨k + 1, _, T, _, _, by go_num, by omega, NX.out, by rw [HTL.out]; exact STP.out⟩
              case measure => simp only [intOf]; omega
        · go_wp2_with fail
          go_meet
          exact ⟨parts, at_, Sq, stq, HR.out, HJ.out⟩
    case rest =>
      obtain ⟨parts, at_, Sq, stq, R, J⟩ := hcut
      have HR := Lib.hid R
      have HJ := Lib.hid J
      have NOW := Lib.hid J.i.now
      have n0 := J.i.inv.n0
      have n1 := J.i.now
      have ale := J.i.le
      rw [n1] at n0
      clear R J R3 I3 n1 HD
      obtain ⟨I3, hi3, hzz⟩ := Option.map_eq_some_iff.1 int_info
      simp only [Prod.mk.injEq] at hzz
      obtain ⟨z3, hz3, hzc⟩ := Option.map_eq_some_iff.1 hzz.1
      have hmk : ∀ w : World, (Instr.makeSlice 36 (.int .i64 (N : Int)) (.int .i64 (N : Int))).run Try.prog w = .ok (.slice (some ⟨w.heap.size, 0, none⟩) N N) (w.alloc (.cells (madeCells #[.int .i64 0] (N * 1)) 2)) := fun w => by
        have := run_make (P := Try.prog) w 36 2 I3 z3 Try.und36 hi3 hz3 .i64 .i64 N N (by omega) (Int.le_refl _) (by rw [hzz.2.2]; omega) (by omega)
        rw [hzc, hzz.2.1] at this
        simpa using this
      have tn := TR.new N
      generalize madeCells #[.int .i64 0] (N * 1) = mz at hmk tn
      have TN := Lib.hid tn
      clear hzz hzc hz3 hi3 tn
      go_wp2_with fail
      refine (c_until w.heap.size 1 (by omega) (Nat.le_refl _) p Sq stq al _ HR.out.ps HR.out.b.size HJ.out.i.inv).mono ?_
      rintro e w5 ⟨v5, S5, rfl, ow5, h5, hs5, _, f5⟩
      have OP := Lib.hid (own_keep (w' := w5) HR.out.own fun g hg => f5.block g (HR.out.own.lt g hg).2 (HR.out.vn g hg))
      have BZ := Lib.hid (Nat.le_trans HR.out.B1 f5.size)
      have STP := Lib.hid (rwb_step HJ.out ale (Int.le_refl _) (by omega))
      have pl := rise_len n0 HJ.out.i.rise
      obtain ⟨tl, htl⟩ : ∃ tl, tl = (untilP stq al).2 := ⟨_, rfl⟩
      rw [← htl] at ow5
      have tlen : tl.length ≤ 1000000 := by
        have h1 := rise_untilP HJ.out.i.inv (T := al) (by omega)
        have h2 := NOW.out
        have := rise_len (by omega) h1
        rw [← htl] at this; omega
      have STQ : Hid (RwB F al al (untilP stq al).1 (parts ++ tl)) := Lib.hid (by rw [htl]; exact STP.out)
      have F5' := Lib.hid f5
      have P5 := Lib.hid h5
      have HS5 := Lib.hid hs5
      have OW5 := Lib.hid ow5
      generalize (untilP stq al).1 = stz at P5 STQ
      clear ow5 h5 hs5 f5 htl STP
      go_wp2_with (refine wpList_append_sl rfl (.tmp 113) (.tmp 116) rfl B3 wc.heap.size _ _ parts tl rfl OP.out rfl OW5.out (by omega) tlen BZ.out ?_; intro v6 w6 ow6 gr6 hat6; have NX := Lib.hid (HR.out.next OW5.out P5.out HS5.out F5'.out ow6 gr6 hat6); obtain ⟨a6, c6, rfl, sb⟩ := sl_own ow6; have SB := Lib.hid sb; have sb1 := sb.le; have sb2 := sb.small; clear ow6 gr6 hat6 sb)
      have B6 := Lib.hid NX.out.b
      have P6 := Lib.hid NX.out.ps
      have T6 := Lib.hid NX.out.tl
      have TNG := TN.out w6
      rw [List.length_append] at SB sb1
      obtain ⟨M, hM⟩ : ∃ M, parts.length + tl.length = M := ⟨_, rfl⟩
      have hMi : (parts.length : Int) + (tl.length : Int) = (M : Int) := by omega
      rw [hMi]
      rw [hM] at SB sb1 ⊢
      clear hM hMi
      generalize parts ++ tl = L at SB STQ
      generalize w6.heap.size = G at TNG ⊢
      have TG := Lib.hid TNG
      have RI := Lib.hid STQ.out.i.rise
      have SN := Lib.hid SB.out.len
      have L0 : Hid (∀ (k : Nat) s, L[k]? = some s → 0 ≤ s.task ∧ s.task < (N : Int)) := Lib.hid (fun k s h => by have := STQ.out.task s (List.mem_of_getElem? h); rwa [FL.out] at this)
      have L1 : Hid (∀ (k : Nat) s, L[k]? = some s → nm ≤ dn → s.late = false) := Lib.hid (fun k s h h2 => (STQ.out.late (LD.out h2)).2 s (List.mem_of_getElem? h))
      clear TNG NX OP BZ F5' P5 HS5 OW5 HR HJ NOW TN
      go_loopw [21, 22, 123] (fun vb va i wr => ∃ k : Nat, i = .int .i64 k ∧ k ≤ M ∧ vb = .int .i64 (busy (L.take k)) ∧ va = .int .i64 (lastTo 0 (L.take k)) ∧ TR N w6 wr G (fun i => share (L.take k) i)) (fun _ _ i _ => M - (intOf i).toNat)
      case atStart => exact ⟨0, rfl, by omega, rfl, rfl, TG.out⟩
      case round =>
        obtain ⟨k, rfl, hk, rfl, rfl, R⟩ := hrel
        have HR := Lib.hid R
        clear R TG
        by_cases hkM : k < M
        · obtain ⟨b, s, rfl, hb, hx, A⟩ := (SB.out.keep HR.out.b).at hkM
          obtain ⟨r1, r2, r3⟩ := RI.out.at hx
          have r0 := RI.out.ge hx
          have t12 := L0.out k s hx
          have HX := Lib.hid hx
          have lt := L1.out k s hx
          obtain ⟨st, sf, so, sl⟩ := s
          simp only at t12 lt r0 r1 r2 r3
          obtain ⟨q, rfl⟩ : ∃ q : Nat, st = (q : Int) := ⟨st.toNat, by omega⟩
          have qN : q < N := by omega
          obtain ⟨LT, hLT⟩ : ∃ LT, LT = lastTo 0 (L.take k) := ⟨_, rfl⟩
          rw [← hLT] at r1 ⊢
          obtain ⟨BY, hBY⟩ : ∃ BY, BY = busy (L.take k) := ⟨_, rfl⟩
          rw [← hBY]
          have HBY := Lib.hid hBY
          have c0 := A.c0
          have c1 := A.c1
          have c2 := A.c2
          have c3 := A.c3
          simp only at c0 c1 c2 c3
          have rt := rise_take k RI.out
          have bb := busy_bd (show (0 : Int) ≤ al by omega) rt
          have sb9 := share_bd (t := (q : Int)) (show (0 : Int) ≤ al by omega) rt
          rw [← hBY] at bb
          clear A hx hLT hBY rt
          obtain ⟨sb, hsb⟩ : ∃ sb, sb = sl := ⟨_, rfl⟩
          have LT0 : sl = true → ¬ (nm : Int) ≤ (dn : Int) := fun e h => by rw [e] at lt; exact absurd (lt (by omega)) (by decide)
          cases sl
          all_goals
            first | have hnd := LT0 rfl | skip
            clear LT0
            have HSB := Lib.hid hsb
            have gG := HR.out.lt
            clear hsb lt
            go_wp2_with fail
            have A0 := sj3_new HR.out q sf so sb
            rw [HSB.out] at A0
            have A1 := Lib.hid A0.1
            have A2 := Lib.hid A0.2
            clear A0 c0 c1 c2 c3 HSB
            refine wp_region_J1 13 (fun x => SJ3 wr.heap.size q sf so w6 x) (by kernel_rfl) rfl (by kernel_rfl) A2.out.drew (fun w4 hb4 hJ hs => ?_)
            have HJ := Lib.hid hJ
            have T4 := Lib.hid (A1.out.keep hb4)
            obtain ⟨gz, hgz⟩ : ∃ gz, gz = wr.heap.size := ⟨_, rfl⟩
            rw [← hgz] at HJ gG ⊢
            have gne := Nat.ne_of_lt gG
            clear hb4 hJ A1 A2 hgz
            (refine j_take 0 _ ?_ hs rfl rfl (by kernel_rfl) (by kernel_rfl) HJ.out (fun w' hw' => ?_) ?_; rotate_left; (· skip; go_simp; rfl); (go_simp))
            (refine j_take 1 _ ?_ hs rfl rfl (by kernel_rfl) (by kernel_rfl) HJ.out (fun w' hw' => ?_) ?_; rotate_left; (· skip; go_simp; rfl); (go_simp))
            (refine j_take 2 _ ?_ hs rfl rfl (by kernel_rfl) (by kernel_rfl) HJ.out (fun w' hw' => ?_) ?_; rotate_left; (· have d := hw'.c0; go_simp; rfl); (go_simp))
            (refine j_take 3 _ ?_ hs rfl rfl (by kernel_rfl) (by kernel_rfl) HJ.out (fun w' hw' => ?_) ?_; rotate_left; (· skip; go_simp; rfl); (go_simp))
            (refine j_take 5 _ ?_ hs rfl rfl (by kernel_rfl) (by kernel_rfl) HJ.out (fun w' hw' => ?_) ?_; rotate_left; (· skip; go_simp; rfl); (go_simp))
            (refine j_take 6 _ ?_ hs rfl rfl (by kernel_rfl) (by kernel_rfl) HJ.out (fun w' hw' => ?_) ?_; rotate_left; (· have d := hw'.c2; go_simp; rfl); (go_simp))
            (refine j_take 7 _ ?_ hs rfl rfl (by kernel_rfl) (by kernel_rfl) HJ.out (fun w' hw' => ?_) ?_; rotate_left; (· skip; go_simp; rfl); (go_simp))
            (refine j_take 8 _ ?_ hs rfl rfl (by kernel_rfl) (by kernel_rfl) HJ.out (fun w' hw' => ?_) ?_; rotate_left; (· have d := hw'.c1; go_simp; rfl); (go_simp))
            (refine j_take 9 _ ?_ hs rfl rfl (by kernel_rfl) (by kernel_rfl) HJ.out (fun w' hw' => ?_) ?_; rotate_left; (· skip; go_simp; rfl); (go_simp))
            have cs := T4.out.cell qN
            have gl := T4.out.lt
            have fz := T4.out.fz q
            obtain ⟨sh, hsh⟩ : ∃ sh, sh = share (L.take k) q := ⟨_, rfl⟩
            rw [← hsh] at cs
            have HSH := Lib.hid hsh
            clear hsh
            rw [← HSH.out] at sb9
            obtain ⟨lx, hs2⟩ : ∃ lx, L.take (k + 1) = L.take k ++ [⟨q, sf, so, lx⟩] := ⟨_, by rw [List.take_add_one, HX.out]; rfl⟩
            have S1 : Hid (share (L.take (k + 1)) (q : Int) = sh + (so - sf) ∧ ∀ i : Nat, i ≠ q → share (L.take (k + 1)) (i : Int) = share (L.take k) (i : Int)) := Lib.hid ⟨by rw [hs2, share_snoc, HSH.out]; simp, fun i hi => by rw [hs2, share_snoc, if_neg (by simp only; omega)]; omega⟩
            have S2 : Hid (busy (L.take (k + 1)) = BY + (so - sf) ∧ lastTo 0 (L.take (k + 1)) = so) := Lib.hid ⟨by rw [hs2, busy_app, HBY.out]; simp [busy], by rw [hs2, lastTo_snoc]⟩
            clear hs2
            refine j_one 4 _ rfl (by kernel_rfl) HJ.out ?_
            go_wp2_with fail
            refine ⟨HJ.out, ?_⟩
            (refine j_take 10 _ ?_ hs rfl rfl (by kernel_rfl) (by kernel_rfl) HJ.out (fun w' hw' => ?_) ?_; rotate_left; (· skip; go_simp; rfl); (go_simp))
            (refine j_take 11 _ ?_ hs rfl rfl (by kernel_rfl) (by kernel_rfl) HJ.out (fun w' hw' => ?_) ?_; rotate_left; (· skip; go_simp; rfl); (go_simp))
            refine j_one 12 _ rfl (by kernel_rfl) HJ.out ?_
            go_wp2_with fail
            have JS := Lib.hid (HJ.out.set gne T4.out.g0 q (.int .i64 (sh + (so - sf))))
            have TS := Lib.hid ((T4.out.set qN (sh + (so - sf))).eqv (f' := fun i => share (L.take (k + 1)) (i : Int)) fun i hi => by
              by_cases e : i = q
              · subst e; rw [if_pos rfl, S1.out.1]
              · rw [if_neg e, S1.out.2 i e])
            generalize w4.setCell ⟨G, q, none⟩ (.int .i64 (sh + (so - sf))) = wy at JS TS ⊢
            refine ⟨JS.out, j_done (by kernel_rfl) ?_⟩
            have d1 := JS.out.c1
            have d2 := JS.out.c2
            have dl := JS.out.lt
            clear cs gl fz
            go_wp2_with fail
            go_roundw
            case rel => exact ⟨k + 1, by go_num, by omega, by rw [S2.out.1], by rw [S2.out.2], TS.out⟩
            case measure => simp only [intOf]; omega
        · obtain rfl : k = M := by omega
          have tk : L.take k = L := List.take_of_length_le (by rw [SN.out]; omega)
          rw [tk] at HR
          rw [tk]
          have TR3 := Lib.hid HR.out
          have SHR : Hid (∀ (i : Nat) t, F[i]? = some t → nm ≤ dn → share L i = al / t.ev * t.lg) := Lib.hid (fun i t hi h2 => by
            have hN : N ≠ 0 := fun e => by have := (List.getElem?_eq_some_iff.1 hi).1; have := FL.out; omega
            have e24 : al = ((24 : Nat) : Int) := by rw [HAL.out, if_neg hN]; rfl
            have hr := RI.out
            have q := rwi_end STQ.out.i
            rw [e24] at hr q ⊢
            refine share_of (H := 24) HE.out (LD.out h2) (by omega) (fun t ht => (FM.out t ht).2.1) hi hr fun k => ?_
            have u : untilP (newP F) ((24 : Nat) : Int) = untilK ((24 : Nat) : Int) 65536 (newP F) := by unfold untilP; rw [show min (((24 : Nat)) : Int) FAR = ((24 : Nat) : Int) by unfold FAR; omega]
            rw [← u]; exact q k)
          have BSY : Hid (dn < nm → busy L = al) := Lib.hid (fun h => (STQ.out.busy (OV.out h)).2)
          have NW : Hid (stz.now = al) := Lib.hid STQ.out.i.now
          have T7 := Lib.hid (T6.out.keep TR3.out.b)
          have P7 := Lib.hid (P6.out.below TR3.out.b)
          have B7 := Lib.hid (B6.out.trans (TR3.out.b.mono B6.out.size))
          clear tk HR L0 L1 SB T6 P6 B6 RI STQ LD OV
          obtain ⟨w7, e7⟩ : ∃ w7, w7 = wr := ⟨_, rfl⟩
          subst e7
          go_wp2_with fail
          go_loopw [189] (fun i wx => ∃ j : Nat, i = .int .i64 j ∧ j ≤ N ∧ Below w7.heap.size w7 wx) (fun i _ => N - (intOf i).toNat)
          case atStart => exact ⟨0, rfl, by omega, Below.refl _ _⟩
          case round =>
            obtain ⟨j, rfl, hj, bb⟩ := hrel
            have BB := Lib.hid bb
            clear bb
            by_cases hjN : j < N
            · obtain ⟨b4, o4, t, rfl, hb4, hx4, A⟩ := (T7.out.keep BB.out).at hjN
              have c0 := A.c0
              have c1 := A.c1
              have c2 := A.c2
              obtain ⟨f1, f2, f3, f4⟩ := FM.out t (List.mem_of_getElem? hx4)
              obtain ⟨g1, g2, g3, g5⟩ := mayT_iff.1 f1
              have SH := Lib.hid (SHR.out j t hx4)
              have sh1 := (BB.out.cell (p := ⟨G, j, none⟩) TR3.out.lt).trans (TR3.out.cell hjN)
              have sl := Nat.lt_of_lt_of_le TR3.out.lt BB.out.size
              have dv1 : 0 ≤ al / t.ev := Int.ediv_nonneg (by omega) (by omega)
              have dv2 : al / t.ev ≤ 24 := Int.le_trans (Int.ediv_le_self _ (by omega)) (by omega)
              have dv3 : 0 ≤ al / t.ev * t.lg := Int.mul_nonneg dv1 (by omega)
              have dv4 : al / t.ev * t.lg ≤ 24 * 12 := Int.mul_le_mul dv2 (by omega) (by omega) (by omega)
              clear A hx4 f1 f2
              obtain ⟨ev, lg, rk⟩ := t
              simp only at c0 c1 c2 f3 f4 g1 g2 g3 g5 SH dv1 dv2 dv3 dv4
              by_cases h2 : nm ≤ dn
              · have h2i : (nm : Int) ≤ (dn : Int) := by omega
                have sh2 := SH.out h2
                rw [sh2] at sh1
                have dd : decide ((nm : Int) ≤ (dn : Int)) = true := decide_eq_true h2i
                go_wp2_with fail
                go_quiet (fail)
                go_wp2_with fail
                go_roundw
                case rel => exact ⟨j + 1, by go_num, by omega, below_drewN (BB.out.alloc BB.out.size _) _⟩
                case measure => simp only [intOf]; omega
              · have h2i : ¬ (nm : Int) ≤ (dn : Int) := by omega
                have dd : decide ((nm : Int) ≤ (dn : Int)) = false := decide_eq_false h2i
                go_wp2_with fail
                go_quiet (fail)
                go_wp2_with fail
                go_roundw
                case rel => exact ⟨j + 1, by go_num, by omega, below_drewN (BB.out.alloc BB.out.size _) _⟩
                case measure => simp only [intOf]; omega
            · go_wp2_with fail
              refine (c_now w.heap.size p S5 _ wr (P7.out.below BB.out)).mono ?_
              rintro e w9 ⟨rfl, rfl⟩
              rw [NW.out]
              by_cases h2 : nm ≤ dn
              · have h2i : (nm : Int) ≤ (dn : Int) := by omega
                go_wp2_with fail
                go_ret
                exact ⟨rfl, B7.out.trans (BB.out.mono B7.out.size)⟩
              · have h2i : ¬ (nm : Int) ≤ (dn : Int) := by omega
                have bz := BSY.out (by omega)
                rw [bz]
                go_wp2_with fail
                go_ret
                exact ⟨rfl, B7.out.trans (BB.out.mono B7.out.size)⟩
end Go.Proofs.Yteejnfjlfoeblaa
