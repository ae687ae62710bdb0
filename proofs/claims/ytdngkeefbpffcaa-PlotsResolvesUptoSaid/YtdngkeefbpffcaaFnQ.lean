import Derived.Test.YtdngkeefbpffcaaFnR
set_option autoImplicit false
set_option linter.unusedVariables false
namespace Go.Proofs.Ytdngkeefbpffcaa
open Go.RowKit Lk Fo
def fints (l : List Int) : List Value := l.map (.int .i64)
theorem ints_snoc (l : List Int) (x : Int) : fints (l ++ [x]) = fints l ++ [.int .i64 x] := by simp [fints]
def nearL (L : List (Int × Int)) (off : Int) : Nat → List Int
  | 0 => []
  | k + 1 => if farL k L 0 ≤ off then nearL L off k ++ [(k : Int)] else nearL L off k
def nearW (R M : List Int) (off most : Int) : List Int × Int :=
  if readyE R M ≠ 0 then ([], readyE R M) else if off < 0 ∨ most < 0 then ([], 2) else if 4194304 < most then ([], 3)
  else if 65536 < (nearL (R.zip M) off most.toNat).length then ([], 3) else (nearL (R.zip M) off most.toNat, 0)
theorem near_more (L : List (Int × Int)) (off : Int) (k : Nat) : ∀ d, (nearL L off k).length ≤ (nearL L off (k + d)).length
  | 0 => Nat.le_refl _
  | d + 1 => by
    refine Nat.le_trans (near_more L off k d) ?_
    show _ ≤ (if farL (k + d : Nat) L 0 ≤ off then nearL L off (k + d) ++ [((k + d : Nat) : Int)] else nearL L off (k + d)).length
    split
    · simp
    · exact Nat.le_refl _
theorem near_yes {L : List (Int × Int)} {off : Int} {k : Nat} (h : farL k L 0 ≤ off) : nearL L off (k + 1) = nearL L off k ++ [(k : Int)] := by rw [nearL, if_pos h]
theorem near_no {L : List (Int × Int)} {off : Int} {k : Nat} (h : ¬ farL k L 0 ≤ off) : nearL L off (k + 1) = nearL L off k := by rw [nearL, if_neg h]
theorem int_info : (Try.prog.info? 2).map (fun i => (i.zero, i.size, i.bytes)) = some (some (.int .i64 0), 1, 8) := by kernel_rfl
theorem und27 : Try.prog.underlying 39 = some (.slice 2) := by kernel_rfl
theorem owns_form {w : World} {B t c n : Nat} {v : Value} {xs : List Value} (h : w.ownsRow B t c v n xs) : ∃ a cap, v = .slice a n cap := by
  rcases h.2 with ⟨rfl, rfl⟩ | ⟨g, cap, cur, rfl, _⟩
  · exact ⟨_, _, rfl⟩
  · exact ⟨_, _, rfl⟩
theorem new1 (w : World) (x : Int) : ∀ (j : Nat) (u : Value), [Value.int .i64 x][j]? = some u → (w.alloc (Obj.cells #[Value.int .i64 x] 2)).cell? ((⟨w.heap.size, 0, none⟩ : Addr).add j) = some u := by
  intro j u h
  have hn : (w.alloc (Obj.cells #[Value.int .i64 x] 2)).heap[w.heap.size]? = some (.cells #[Value.int .i64 x] 2 (0, 0)) := by rw [al, if_pos rfl]
  have ha : (⟨w.heap.size, 0, none⟩ : Addr).add j = ⟨w.heap.size, j, none⟩ := by unfold Addr.add; split <;> simp_all
  rw [ha, cell_of_heap hn j]
  match j, h with
  | 0, h => exact h
theorem one1 (x : Int) : ∀ u ∈ [Value.int .i64 x], u.oneCell' = true := by
  intro u hu
  simp only [List.mem_cons, List.not_mem_nil, or_false] at hu
  rcases hu with rfl; rfl
theorem ret2v {v : Value} {e e' : Int} (h : e = e') : Ending.returned (.tuple #[v, .int .i64 e]) = .returned (.tuple #[v, .int .i64 e']) := by rw [h]
theorem okr_bounds {L : List (Int × Int)} (h : Okr L) (x : Int) : 0 ≤ farL x L 0 ∧ farL x L 0 ≤ 1099511627776 := farL_bounds x L 0 (fun p hp => (h p hp).1) (by omega) (by omega)
theorem readyE_ok {R M : List Int} (h : readyE R M = 0) : badM (R.zip M) = false := by
  unfold readyE at h
  split at h
  · exact absurd h (by decide)
  · split at h
    · exact absurd h (by decide)
    · rename_i h2; simpa using h2
theorem owns_low {w : World} {B B' t c n : Nat} {v : Value} {xs : List Value} (h : w.ownsRow B' t c v n xs) (hB : B ≤ B') : w.ownsRow B t c v n xs :=
  ⟨h.1, h.2.imp id fun ⟨g, cap, cur, h1, h2, h3⟩ => ⟨g, cap, cur, h1, Nat.le_trans hB h2, h3⟩⟩
theorem owns_nil' {w : World} {B : Nat} {l : List Int} (h : l = []) : w.ownsRow B 2 1 (.slice none 0 0) l.length (fints l) := by subst h; exact World.ownsRow_nil _ _ _ _
set_option maxRecDepth 100000 in
set_option maxHeartbeats 4000000 in
theorem fnear_walk (a1 a2 : Option Addr) (n1 n2 c1 c2 : Nat) (R M : List Int) (off most : Int) (w : World) (s1 : Sl w a1 n1 c1 R) (s2 : Sl w a2 n2 c2 M) (f1 : -9223372036854775808 ≤ off) (f2 : off ≤ 9223372036854775807) (f3 : -9223372036854775808 ≤ most) (f4 : most ≤ 9223372036854775807) :
    Calls Try.prog 27 #[.slice a1 n1 c1, .slice a2 n2 c2, .int .i64 off, .int .i64 most] w (fun e w' => ∃ v, e = .returned (.tuple #[v, .int .i64 (nearW R M off most).2]) ∧ w'.ownsRow w.heap.size 2 1 v (nearW R M off most).1.length (fints (nearW R M off most).1) ∧ Below w.heap.size w w') := by
  obtain ⟨I, hi, hz, hsz, hby⟩ := info_parts int_info
  have S := Lib.hid (And.intro s1 s2)
  clear s1 s2
  go_enter Try.func27, Try.ntmps27
  go_wp2_with fail
  refine (ready_walk a1 a2 n1 n2 c1 c2 R M w S.out.1 S.out.2).mono ?_; rintro e w1 ⟨v, rfl, hp, hb⟩
  by_cases hr : readyE R M = 0
  · have hrr := hr
    rw [hr]
    have P := Lib.hid (hp hr)
    have HR := Lib.hid hr
    have HB := Lib.hid hb
    have OK := Lib.hid (okr_rdy (readyE_ok hr))
    have zz := hb.size
    clear hp hr hrr hb
    by_cases g1 : off < 0
    · have E : Hid (nearW R M off most = ([], 2)) := Lib.hid (by unfold nearW; rw [if_neg (by simp [HR.out]), if_pos (.inl g1)])
      go_wp2_with fail
      refine bodyPost_ret (v := ?_) ?_ rfl ?_
      rotate_left
      · simp [results, Try.results27, go_sem]; rfl
      · exact ⟨_, ret2v (by rw [E.out]), owns_nil' (by rw [E.out]), HB.out⟩
    · by_cases g2 : most < 0
      · have E : Hid (nearW R M off most = ([], 2)) := Lib.hid (by unfold nearW; rw [if_neg (by simp [HR.out]), if_pos (.inr g2)])
        go_wp2_with fail
        refine bodyPost_ret (v := ?_) ?_ rfl ?_
        rotate_left
        · simp [results, Try.results27, go_sem]; rfl
        · exact ⟨_, ret2v (by rw [E.out]), owns_nil' (by rw [E.out]), HB.out⟩
      · by_cases g3 : 4194304 < most
        · have E : Hid (nearW R M off most = ([], 3)) := Lib.hid (by unfold nearW; rw [if_neg (by simp [HR.out]), if_neg (by omega), if_pos g3])
          go_wp2_with fail
          refine bodyPost_ret (v := ?_) ?_ rfl ?_
          rotate_left
          · simp [results, Try.results27, go_sem]; rfl
          · exact ⟨_, ret2v (by rw [E.out]), owns_nil' (by rw [E.out]), HB.out⟩
        · have E : Hid (nearW R M off most = if 65536 < (nearL (R.zip M) off most.toNat).length then ([], 3) else (nearL (R.zip M) off most.toNat, 0)) := Lib.hid (by unfold nearW; rw [if_neg (by simp [HR.out]), if_neg (by omega), if_neg g3])
          go_wp2_with fail
          go_loopw [8, 33] (fun u i wr => ∃ (k m : Nat), (k : Int) ≤ most ∧ i = .int .i64 k ∧ m ≤ 65536 ∧ (nearL (R.zip M) off k).length = m ∧ wr.ownsRow w1.heap.size 2 1 u m (fints (nearL (R.zip M) off k)) ∧ Below w1.heap.size w1 wr) (fun _ i _ => most.toNat - (intOf i).toNat)
          case atStart => exact ⟨0, 0, by omega, rfl, by omega, rfl, World.ownsRow_nil _ _ _ _, Below.refl _ _⟩
          case round =>
            obtain ⟨k, m, hk, rfl, hm, hl, ho, hb⟩ := hrel
            obtain ⟨ua, uc, rfl⟩ := owns_form ho
            have HL := Lib.hid hl
            have H2 := Lib.hid hb
            have z2 := hb.size
            clear hl hb
            by_cases hlt : (k : Int) < most
            · go_wp2_with fail
              refine (far_walk k v (rdy (R.zip M)) wr (by omega) (by omega) (P.out.keep H2.out) OK.out).mono ?_; rintro e w3 ⟨rfl, b3⟩
              rw [farL_rdy]
              have H3 := Lib.hid (H2.out.trans (b3.mono z2))
              have ho3 := ownsB ho b3
              have z3 := b3.size
              clear b3 ho H2
              obtain ⟨fv, hfv⟩ : ∃ fv, farL k (R.zip M) 0 = fv := ⟨_, rfl⟩
              rw [hfv]
              have HF := Lib.hid hfv
              clear hfv
              by_cases hf : off < fv
              · have NN : Hid (nearL (R.zip M) off (k + 1) = nearL (R.zip M) off k) := Lib.hid (near_no (by rw [HF.out]; omega))
                go_wp2_with fail
                go_roundw
                case rel => exact ⟨k + 1, m, by omega, by go_num, hm, by rw [NN.out]; exact HL.out, by rw [NN.out]; exact ho3, H3.out⟩
                case measure => simp [intOf]; omega
              · have NN : Hid (nearL (R.zip M) off (k + 1) = nearL (R.zip M) off k ++ [(k : Int)]) := Lib.hid (near_yes (by rw [HF.out]; omega))
                by_cases hmm : m = 65536
                · have E2 : Hid (nearW R M off most = ([], 3)) := Lib.hid (by
                    rw [E.out, if_pos]
                    have := near_more (R.zip M) off (k + 1) (most.toNat - (k + 1))
                    rw [show k + 1 + (most.toNat - (k + 1)) = most.toNat by omega, NN.out, List.length_append, HL.out] at this
                    simp only [List.length_cons, List.length_nil] at this
                    omega)
                  subst hmm
                  go_wp2_with fail
                  refine bodyPost_ret (v := ?_) ?_ rfl ?_
                  rotate_left
                  · simp [results, Try.results27, go_sem]; rfl
                  · exact ⟨_, ret2v (by rw [E2.out]), owns_nil' (by rw [E2.out]), HB.out.trans (H3.out.mono zz)⟩
                · have hmi : ¬ (m : Int) = 65536 := by omega
                  have hB3 : w1.heap.size ≤ w3.heap.size := by omega
                  go_wp2_with (refine wpList_append_own _ rfl (.tmp 44) (.tmp 46) 39 rfl w1.heap.size 2 I _ 1 8 und27 hi hz hsz hby rfl (by decide) _ m (fints (nearL (R.zip M) off k)) rfl (ho3.alloc _) ⟨w3.heap.size, 0, none⟩ 1 1 [.int .i64 k] rfl rfl (new1 w3 k) (one1 k) (by simp only [maxLen]; omega) (by omega) (by simp; omega) ?_; intro v' w4 ow gr _)
                  refine ⟨⟨k + 1, m + 1, by omega, by go_num, by omega, by rw [NN.out, List.length_append, HL.out]; rfl, by rw [NN.out, ints_snoc]; exact ow, grownB (H3.out.alloc hB3 _) gr (ho3.alloc _) (by simp; omega)⟩, by simp [intOf]; omega⟩
            · obtain rfl : (k : Int) = most := by omega
              go_wp2_with fail
              refine bodyPost_ret (v := ?_) ?_ rfl ?_
              rotate_left
              · simp [results, Try.results27, go_sem]; rfl
              · have e : nearW R M off k = (nearL (R.zip M) off k, 0) := by
                  rw [E.out, Int.toNat_natCast, if_neg (by rw [HL.out]; omega)]
                exact ⟨_, ret2v (by rw [e]), by rw [e, HL.out]; exact owns_low ho zz, HB.out.trans (H2.out.mono zz)⟩
  · have E : Hid (nearW R M off most = ([], readyE R M)) := Lib.hid (by unfold nearW; rw [if_pos hr])
    go_wp2_with fail
    refine bodyPost_ret (v := ?_) ?_ rfl ?_
    rotate_left
    · simp [results, Try.results27, go_sem]; rfl
    · exact ⟨_, ret2v (by rw [E.out]), owns_nil' (by rw [E.out]), hb⟩
end Go.Proofs.Ytdngkeefbpffcaa
