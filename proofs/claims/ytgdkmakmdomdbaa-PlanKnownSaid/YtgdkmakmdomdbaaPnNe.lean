import Derived.Test.YtgdkmakmdomdbaaPnY
set_option autoImplicit false
set_option linter.unusedVariables false
namespace Go.Proofs.Ytgdkmakmdomdbaa
open Go.RowKit Lk Pn
theorem Try.und62 : Try.prog.underlying 62 = some (.slice 68) := by kernel_rfl
def zcl : Array Value := #[.int .i64 0, .int .i64 0, .int .i64 0, .int .i64 0, .slice none 0 0, .int .i64 0]
theorem line_info : (Try.prog.info? 68).map (fun i => (i.zero.map (·.cells), i.size, i.bytes)) = some (some zcl, 6, 64) := by kernel_rfl
def zl : Ln := ⟨⟨0, 0, 0⟩, 0, [], 0⟩
def mkL (t : Tk) : Ln := ⟨t, 0, [], 0⟩
def newK (L : List Tk) (k : Nat) : List Ln := (L.take k).map mkL ++ List.replicate (L.length - k) zl
theorem newK_len (L : List Tk) (k : Nat) (h : k ≤ L.length) : (newK L k).length = L.length := by unfold newK; simp; omega
theorem newK_at {L : List Tk} {k : Nat} (h : k < L.length) : (newK L k)[k]? = some zl := by
  unfold newK
  rw [List.getElem?_append_right (by simp; omega)]
  simp [List.getElem?_replicate]; omega
theorem newK_succ {L : List Tk} {k : Nat} {t : Tk} (h : L[k]? = some t) : newK L (k + 1) = (newK L k).set k (mkL t) := by
  have hk := (List.getElem?_eq_some_iff.1 h).1
  apply List.ext_getElem?
  intro j
  by_cases e : j = k
  · subst e
    rw [List.getElem?_set_self (by rw [newK_len _ _ (by omega)]; exact hk)]
    unfold newK
    rw [List.getElem?_append_left (by simp; omega), List.getElem?_map, List.getElem?_take, if_pos (by omega), h]; rfl
  · rw [List.getElem?_set_ne (by omega)]
    unfold newK
    by_cases hj : j < k
    · rw [List.getElem?_append_left (by simp; omega), List.getElem?_append_left (by simp; omega)]
      simp [hj, show j < k + 1 by omega]
    · rw [List.getElem?_append_right (by simp; omega), List.getElem?_append_right (by simp; omega)]
      simp only [List.length_map, List.length_take, List.getElem?_replicate]
      by_cases h2 : j < L.length
      · rw [if_pos (by omega), if_pos (by omega)]
      · rw [if_neg (by omega), if_neg (by omega)]
theorem newK_all (L : List Tk) : newK L L.length = (newP L).l := by unfold newK newP mkL; simp
theorem newK_zero (L : List Tk) : newK L 0 = List.replicate L.length zl := by unfold newK; simp
theorem made_get {n i q : Nat} (hi : i < n) (hq : q < 6) : (madeCells zcl (n * 6))[i * 6 + q]? = zcl[q]? := by
  unfold madeCells
  have h1 : i * 6 + q < n * 6 := by omega
  have h2 : (i * 6 + q) % 6 = q := by omega
  rw [Array.getElem?_map, Array.getElem?_range, if_pos h1]
  simp only [Option.map_some]
  rw [show zcl.size = 6 from rfl, h2]
  match q, hq with
  | 0, _ => rfl
  | 1, _ => rfl
  | 2, _ => rfl
  | 3, _ => rfl
  | 4, _ => rfl
  | 5, _ => rfl
theorem pa_new (L : List Tk) (w : World) (h63 : L.length ≤ 9223372036854775807) :
    PAx cY ((w.alloc (.cells (madeCells zcl (L.length * 6)) 68)).alloc (.cells #[.slice (some ⟨w.heap.size, 0, none⟩) L.length L.length, .int .i64 0] 64)) (Sx (fun _ => False) w ((w.alloc (.cells (madeCells zcl (L.length * 6)) 68)).alloc (.cells #[.slice (some ⟨w.heap.size, 0, none⟩) L.length L.length, .int .i64 0] 64)))
      (w.heap.size + 1) w.heap.size L.length (List.replicate L.length (.slice none 0 0)) ⟨newK L 0, 0⟩ := by
  have hp := Deep.blk_alloc_new (w.alloc (.cells (madeCells zcl (L.length * 6)) 68)) (.cells #[.slice (some ⟨w.heap.size, 0, none⟩) L.length L.length, .int .i64 0] 64)
  rw [al_size] at hp
  have hl := (Below.heap_alloc (w.alloc (.cells (madeCells zcl (L.length * 6)) 68)) (.cells #[.slice (some ⟨w.heap.size, 0, none⟩) L.length L.length, .int .i64 0] 64) w.heap.size (by rw [al_size]; omega)).trans (Deep.blk_alloc_new w _)
  have hn := newK_len L 0 (Nat.zero_le _)
  have hz : ∀ (i : Nat) v, (List.replicate L.length (Value.slice none 0 0))[i]? = some v → v = .slice none 0 0 := fun i v h => by
    rw [List.getElem?_replicate] at h
    split at h
    · exact (Option.some.inj h).symm
    · cases h
  have hx : ∀ (i : Nat) x, (newK L 0)[i]? = some x → x = zl ∧ i < L.length := fun i x h => by
    rw [newK_zero, List.getElem?_replicate] at h
    split at h
    · exact ⟨(Option.some.inj h).symm, by assumption⟩
    · cases h
  refine ⟨by simp only [hn]; exact hp, by simp only [hn]; exact Nat.le_refl _, h63, ⟨_, hl, fun i x v h1 h2 => ?_⟩, by simp only [hn, List.length_replicate], fun i x v h1 h2 => ?_, .inr ⟨by omega, by rw [al_size, al_size]; omega⟩, .inr ⟨by omega, by rw [al_size, al_size]; omega⟩, by omega, fun i v g h1 h2 => ?_, fun i j v v' g h1 h2 h3 h4 => ?_, fun k hk => hk.elim False.elim (·.2)⟩
  · obtain ⟨rfl, hi⟩ := hx i x h1
    obtain rfl := hz i v h2
    exact ⟨made_get hi (q := 0) (by decide), made_get hi (by decide), made_get hi (by decide), made_get hi (by decide), made_get hi (by decide), made_get hi (by decide)⟩
  · obtain ⟨rfl, hi⟩ := hx i x h1
    obtain rfl := hz i v h2
    exact .inl ⟨rfl, rfl⟩
  · obtain rfl := hz i v h1
    cases h2
  · obtain rfl := hz i v h1
    cases h3
/-- what New hands back -/
structure NewP (L : List Tk) (w : World) (e : Ending) (w' : World) : Prop where
  b : Below w.heap.size w w'
  no : newE L ≠ 0 → e = .returned (.tuple #[.pointer none, .int .i64 (newE L)])
  ok : newE L = 0 → ∃ p lb cap vs S', e = .returned (.tuple #[.pointer (some ⟨p, 0, none⟩), .int .i64 0]) ∧ PAx cY w' S' p lb cap vs (newP L) ∧ ∀ k, S' k → w.heap.size ≤ k
structure NR (L : List Tk) (w wr : World) (k : Nat) (vs : List Value) : Prop where
  pa : PAx cY wr (Sx (fun _ => False) w wr) (w.heap.size + 1) w.heap.size L.length vs ⟨newK L k, 0⟩
  b : Below w.heap.size w wr
  may : ∀ (j : Nat) t, j < k → L[j]? = some t → mayT t = true
set_option maxRecDepth 100000 in
set_option maxHeartbeats 2000000 in
theorem new_walk (a : Option Addr) (n cap : Nat) (L : List Tk) (w : World) (ts : Ts w a n cap L) : Calls Try.prog 10 #[.slice a n cap] w (NewP L w) := by
  have n63 : n ≤ 9223372036854775807 := Nat.le_trans ts.le ts.small
  have HT := Lib.hid ts
  have hlen := ts.len
  have HL := Lib.hid hlen
  clear ts
  by_cases hbig : 256 < n
  · have hb : (256 : Int) < (n : Int) := by omega
    have E := Lib.hid (show newE L = 3 by unfold newE; rw [if_pos (by omega)])
    clear hlen hbig
    go_enter Try.func10, Try.ntmps10
    go_wp2_with fail
    go_ret2
    exact ⟨Below.refl _ _, fun _ => by rw [E.out]; rfl, fun h => by rw [E.out] at h; exact absurd h (by decide)⟩
  · have hb : ¬ (256 : Int) < (n : Int) := by omega
    obtain ⟨I, hi, hzz⟩ := Option.map_eq_some_iff.1 line_info
    simp only [Prod.mk.injEq] at hzz
    obtain ⟨z, hz, hzc⟩ := Option.map_eq_some_iff.1 hzz.1
    have hmk : ∀ w : World, (Instr.makeSlice 62 (.int .i64 (n : Int)) (.int .i64 (n : Int))).run Try.prog w = .ok (.slice (some ⟨w.heap.size, 0, none⟩) n n) (w.alloc (.cells (madeCells zcl (n * 6)) 68)) := fun w => by
      have := run_make (P := Try.prog) w 62 68 I z Try.und62 hi hz .i64 .i64 n n (by omega) (Int.le_refl _) (by rw [hzz.2.2]; omega) (by omega)
      rw [hzc, hzz.2.1] at this
      simpa using this
    have P0 := Lib.hid (pa_new L w (by omega))
    rw [hlen] at P0
    have B0 := Lib.hid (((Below.refl _ w).alloc (Nat.le_refl _) (.cells (madeCells zcl (n * 6)) 68)).alloc (by rw [al_size]; omega) (.cells #[.slice (some ⟨w.heap.size, 0, none⟩) n n, .int .i64 0] 64))
    generalize madeCells zcl (n * 6) = mz at hmk P0 B0
    clear hlen hzz hzc hz hi hbig
    go_enter Try.func10, Try.ntmps10
    go_wp2_with fail
    go_loopw [17] (fun i wr => ∃ k vs, k ≤ n ∧ i = .int .i64 k ∧ NR L w wr k vs) (fun i _ => n - (intOf i).toNat)
    case atStart => exact ⟨0, _, by omega, rfl, ⟨by rw [HL.out]; exact P0.out, B0.out, fun j t h => by omega⟩⟩
    case round =>
      obtain ⟨k, vs, hk, rfl, R⟩ := hrel
      have HR := Lib.hid R
      have p0 := R.pa.p0
      simp only at p0
      rw [newK_len _ _ (by rw [HL.out]; exact hk), HL.out] at p0
      clear R hmk P0 B0
      by_cases hlt : k < n
      · have hk64 : (k : Int) < (n : Int) := by omega
        obtain ⟨b, off, t, rfl, hb1, hx, A⟩ := (HT.out.keep HR.out.b).at hlt
        have c0 := A.c0
        have c1 := A.c1
        have c2 := A.c2
        have HX := Lib.hid hx
        have hnc := HT.out.le
        have hcs := HT.out.small
        have MW := fun w => may_walk t (mayT t) rfl w
        obtain ⟨mt, hmt⟩ : ∃ mt, mt = mayT t := ⟨_, rfl⟩
        rw [← hmt] at MW
        have HMT := Lib.hid hmt
        have MW1 := Lib.hid MW
        clear hx A MW hmt
        go_wp2_with fail
        refine (MW1.out _).mono ?_
        rintro e w2 ⟨rfl, b2⟩
        have bA : Below wr.heap.size wr (wr.alloc (.cells #[.int .i64 t.ev, .int .i64 t.lg, .int .i64 t.rk] 26)) := (Below.refl _ wr).alloc (Nat.le_refl _) _
        have B2 := Lib.hid (bA.trans (b2.mono (by rw [al_size]; omega)))
        have T2 := Lib.hid ((b2.block wr.heap.size (by rw [al_size]; omega)).trans (Deep.blk_alloc_new wr _))
        clear b2 bA MW1 c0 c1 c2 p0
        cases mt with
        | false =>
          have E := Lib.hid (show newE L = 240 by
            unfold newE
            rw [if_neg (by rw [HL.out]; omega), if_neg]
            rw [Bool.not_eq_true, List.all_eq_false]
            exact ⟨t, List.mem_of_getElem? HX.out, by rw [← HMT.out]; decide⟩)
          go_wp2_with fail
          go_ret2
          exact ⟨HR.out.b.trans (B2.out.mono HR.out.b.size), fun _ => by rw [E.out]; rfl, fun h => by rw [E.out] at h; exact absurd h (by decide)⟩
        | true =>
          have Q2 := Lib.hid (HR.out.pa.below B2.out)
          have p0 := Q2.out.p0
          simp only at p0
          rw [newK_len _ _ (by rw [HL.out]; exact hk), HL.out] at p0
          have c0 := blk_cell T2.out 0
          have c1 := blk_cell T2.out 1
          have c2 := blk_cell T2.out 2
          have tl := blk_lt T2.out
          have ql := Q2.out.plt
          go_wp2_with fail
          refine wp_region_G_tail 8 TNH (by kernel_rfl) (by kernel_rfl) ?_
          simp only [List.take, List.drop]
          iterate 8 (refine wpG_step' (fun K hA hK => ?_); go_simp; (refine bothG_value hA (v := ?_) (fun w' hw' => ?_) ?_; rotate_left; (· go_simp; rfl); (refine hK _ _ ?_; clear hK hA K)))
          refine wpG_nil ?_
          intro w3 hb3 hF
          have hat := newK_at (L := L) (k := k) (by rw [HL.out]; exact hlt)
          have Q3 := Lib.hid (Q2.out.below hb3)
          obtain ⟨cur, hcur, _⟩ := Q3.out.bl
          have HC := Lib.hid hcur
          have CS := Lib.hid (show k * 6 + (tkc t).size ≤ cur.size by
            obtain ⟨v, hv, A, _⟩ := Q3.out.ln hat
            have := A.c5
            simp only [World.cell?, hcur] at this
            have := (Array.getElem?_eq_some_iff.1 this).1
            show k * 6 + 3 ≤ cur.size
            omega)
          have B3 := Lib.hid (B2.out.trans (hb3.mono B2.out.size))
          have HAT := Lib.hid hat
          clear hF hb3 hcur c0 c1 c2 tl ql p0 Q2 hat
          go_wp2_with (refine wpList_store_at rfl (ty := 26) (x := .tmp 32) (y := .tmp 30) rfl (g := w.heap.size) (j := k * 6) (cells := tkc t) rfl rfl HC.out (by kernel_rfl) CS.out (tkc_one _) ?_; intro w4 hg4 on4)
          have P4 := Lib.hid (Q3.out.setT HAT.out t HC.out hg4 on4)
          have B4 := Lib.hid ((HR.out.b.trans (B3.out.mono HR.out.b.size)).trans (on4.below (Nat.le_refl _)))
          clear hg4 on4
          go_roundw
          case rel =>
            refine ⟨k + 1, vs, by omega, by go_num, ⟨?_, B4.out, fun j u hj hu => ?_⟩⟩
            · rw [newK_succ HX.out]
              exact P4.out.keep (fun _ _ => rfl) (fun j hj => hj.imp id fun e => ⟨e.1, P4.out.inS j hj⟩) (fun j hj => hj.elim False.elim (·.2))
            · by_cases e : j = k
              · subst e
                rw [HX.out] at hu; cases hu; exact HMT.out.symm
              · exact HR.out.may j u (by omega) hu
          case measure => simp [intOf]; omega
      · obtain rfl : k = n := by omega
        have E := Lib.hid (show newE L = 0 by
          unfold newE
          rw [if_neg (by rw [HL.out]; omega), if_pos]
          rw [List.all_eq_true]
          intro t ht
          obtain ⟨j, hj⟩ := List.mem_iff_getElem?.1 ht
          exact HR.out.may j t (by rw [← HL.out]; exact (List.getElem?_eq_some_iff.1 hj).1) hj)
        go_wp2_with fail
        go_ret2
        refine ⟨HR.out.b, fun h => absurd E.out h, fun _ => ⟨w.heap.size + 1, w.heap.size, L.length, vs, Sx (fun _ => False) w wr, rfl, ?_, fun i hi => Or.elim hi False.elim (·.1)⟩⟩
        have := HR.out.pa
        rw [← HL.out] at this
        rw [show newP L = ⟨newK L L.length, 0⟩ by rw [newK_all]; rfl]
        exact this
end Go.Proofs.Ytgdkmakmdomdbaa
