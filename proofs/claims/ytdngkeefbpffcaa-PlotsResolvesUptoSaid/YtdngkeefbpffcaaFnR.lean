import Derived.Test.YtdngkeefbpffcaaFnN
set_option autoImplicit false
set_option linter.unusedVariables false
namespace Go.Proofs.Ytdngkeefbpffcaa
open Go.RowKit Lk Fo
structure TM (r m : Int) (f : FuncId) (args : Array Value) (u : Value) (w : World) : Prop where
  a : f = 72 → args = #[.int .i64 r, .int .i64 m] → u = .int .i64 (r % m)
theorem tm_a {r m : Int} (r1 : -9223372036854775808 ≤ r) (r2 : r ≤ 9223372036854775807) (m1 : 1 ≤ m) (m2 : m ≤ 9223372036854775807) (w : World) : Calls Try.prog 72 #[.int .i64 r, .int .i64 m] w (fun e' w'' => ∃ u, e' = .returned u ∧ TM r m 72 #[.int .i64 r, .int .i64 m] u w'' ∧ Ext w w'') :=
  (fmod_walk r m w r1 r2 m1 m2).mono fun e' w' ⟨he, hb⟩ => ⟨_, he, ⟨fun _ _ => rfl⟩, by rw [← hb]; exact Ext.refl _⟩
def badM (l : List (Int × Int)) : Bool := l.any fun p => decide (p.2 < 1 ∨ 1099511627776 < p.2)
def readyE (R M : List Int) : Int := if 8 < min R.length M.length then 3 else if badM (R.zip M) then 2 else 0
theorem badM_drop {l : List (Int × Int)} {k : Nat} {p : Int × Int} (h : l[k]? = some p) (hp : p.2 < 1 ∨ 1099511627776 < p.2) : badM l = true := by
  unfold badM
  rw [List.any_eq_true]
  exact ⟨p, List.mem_of_getElem? h, by simpa using hp⟩
theorem badM_false {l : List (Int × Int)} (h : ∀ (k : Nat) (p : Int × Int), l[k]? = some p → ¬ (p.2 < 1 ∨ 1099511627776 < p.2)) : badM l = false := by
  unfold badM
  rw [List.any_eq_false]
  intro p hp
  obtain ⟨k, hk⟩ := List.getElem?_of_mem hp
  simpa using h k p hk
theorem okr_rdy {l : List (Int × Int)} (h : badM l = false) : Okr (rdy l) := by
  unfold badM at h
  rw [List.any_eq_false] at h
  intro p hp
  obtain ⟨q, hq, rfl⟩ := List.mem_map.1 hp
  have := h q hq
  simp only [decide_eq_true_eq] at this
  exact ⟨⟨by simp only; omega, by simp only; omega⟩, Int.emod_nonneg _ (by omega), Int.emod_lt_of_pos _ (by omega)⟩
theorem rdy_take {l : List (Int × Int)} {k : Nat} {r m : Int} (h : l[k]? = some (r, m)) : rdy (l.take (k + 1)) = rdy (l.take k) ++ [(r % m, m)] := by
  rw [List.take_add_one, h]; simp [rdy]
theorem zip_at {R M : List Int} {k : Nat} {r m : Int} (hr : R[k]? = some r) (hm : M[k]? = some m) : (R.zip M)[k]? = some (r, m) := by
  rw [List.getElem?_zip_eq_some]; exact ⟨hr, hm⟩
theorem pr_cells {w : World} {g : Nat} {x y : Int} (hn : w.heap[g]? = some (.cells #[Value.int .i64 x, Value.int .i64 y] 101 (0, 0))) : ∀ (j : Nat) (u : Value), [Value.int .i64 x, Value.int .i64 y][j]? = some u → w.cell? ((⟨g, 0, none⟩ : Addr).add j) = some u := by
  intro j u h
  have ha : (⟨g, 0, none⟩ : Addr).add j = ⟨g, j, none⟩ := by unfold Addr.add; split <;> simp_all
  rw [ha, cell_of_heap hn j]
  match j, h with
  | 0, h => exact h
  | 1, h => exact h
theorem ints_one (x y : Int) : ∀ u ∈ [Value.int .i64 x, Value.int .i64 y], u.oneCell' = true := by
  intro u hu
  simp only [List.mem_cons, List.not_mem_nil, or_false] at hu
  rcases hu with rfl | rfl <;> rfl
theorem ownsB {w w' : World} {B n t c : Nat} {v : Value} {xs : List Value} (h : w.ownsRow B t c v n xs) (b : Below w.heap.size w w') : w'.ownsRow B t c v n xs :=
  h.kept (row := none) ⟨b.os, b.tape, b.output, b.size, fun k hk _ => b.block k hk⟩ (by cases hv : v.ownBlock <;> simp)
theorem grownB {w w' w'' : World} {B n t c : Nat} {v : Value} {xs : List Value} (h : Below B w w') (g : w'.grownBy w'' v.ownBlock) (hv : w'.ownsRow B t c v n xs) (hB : B ≤ w'.heap.size) : Below B w w'' :=
  h.trans ⟨g.os, g.tape, g.output, g.size, fun k hk => g.block k (by omega) (fun e => by have := (hv.lt k e.symm).1; omega)⟩
theorem bothG_slice {P : Program} {W : World} {T : FuncId → Array Value → Value → World → Prop} {K : Kont} {a : Act} {F : World → Prop} {o : Oper} {ob : Obj} {l c : Nat} (h : ∀ w', (execOp a.eval o).run P w' = .ok (.value (.slice (some ⟨w'.heap.size, 0, none⟩) l c)) (w'.alloc ob))
    (hk : ∀ n x, W.heap.size ≤ n → n < x.heap.size → x.heap[n]? = some ob → K (a.put o.dst (.slice (some ⟨n, 0, none⟩) l c)) (And1 F x)) : bothG P W T o a F K := by
  refine bothG_values (S := fun u x => ∃ n, u = .slice (some ⟨n, 0, none⟩) l c ∧ W.heap.size ≤ n ∧ n < x.heap.size ∧ x.heap[n]? = some ob) ?_ (fun u x ⟨n, hu, h1, h2, h3⟩ => hu ▸ hk n x h1 h2 h3)
  intro w hw
  refine ⟨_, _, h w, ⟨_, rfl, hw.size, by simp, ?_⟩, (Below.refl _ w).alloc (Nat.le_refl _) ob⟩
  show (w.heap.push ob)[w.heap.size]? = some ob
  simp
theorem lt_min {n1 n2 : Nat} : (if n2 < n1 then (n2 : Int) else (n1 : Int)) = ((min n1 n2 : Nat) : Int) := by split <;> omega
theorem ret2s {v : Value} {e e' : Int} (h : e = e') : Ending.returned (.tuple #[v, .int .i64 e]) = .returned (.tuple #[v, .int .i64 e']) := by rw [h]
set_option maxHeartbeats 4000000 in
theorem ready_walk (a1 a2 : Option Addr) (n1 n2 c1 c2 : Nat) (R M : List Int) (w : World) (s1 : Sl w a1 n1 c1 R) (s2 : Sl w a2 n2 c2 M) :
    Calls Try.prog 49 #[.slice a1 n1 c1, .slice a2 n2 c2] w (fun e w' => ∃ v, e = .returned (.tuple #[v, .int .i64 (readyE R M)]) ∧ (readyE R M = 0 → Prs w' v (rdy (R.zip M))) ∧ Below w.heap.size w w') := by
  obtain ⟨I, hi, hz, hsz, hby⟩ := info_parts ip_info
  have l1 := s1.len
  have l2 := s2.len
  have S1 := Lib.hid s1
  have S2 := Lib.hid s2
  have L := Lib.hid (And.intro l1 l2)
  clear s1 s2 l1 l2
  have hif := lt_min (n1 := n1) (n2 := n2)
  obtain ⟨n, hn⟩ : ∃ n, n = min n1 n2 := ⟨_, rfl⟩
  rw [← hn] at hif
  have HN := Lib.hid hn
  clear hn
  by_cases h8 : 8 < n
  · have h8' : (8 : Int) < (n : Int) := by omega
    have J : Hid (readyE R M = 3) := Lib.hid (by unfold readyE; rw [L.out.1, L.out.2, ← HN.out, if_pos h8])
    go_enter Try.func49, Try.ntmps49
    go_wp2_with fail
    refine bodyPost_ret (v := ?_) ?_ rfl ?_
    rotate_left
    · simp [results, Try.results49, go_sem]; rfl
    · exact ⟨_, ret2s J.out.symm, fun h => by rw [J.out] at h; exact absurd h (by decide), Below.refl _ _⟩
  · have h8' : ¬ (8 : Int) < (n : Int) := by omega
    have J : Hid (readyE R M = if badM (R.zip M) then 2 else 0) := Lib.hid (by unfold readyE; rw [L.out.1, L.out.2, ← HN.out, if_neg h8])
    go_enter Try.func49, Try.ntmps49
    go_wp2_with fail
    clear hif
    go_loopw [7, 17] (fun v i wr => ∃ k : Nat, k ≤ n ∧ i = .int .i64 k ∧ wr.ownsRow w.heap.size 101 2 v k (flatP (rdy ((R.zip M).take k))) ∧ (∀ (j : Nat) (p : Int × Int), j < k → (R.zip M)[j]? = some p → ¬ (p.2 < 1 ∨ 1099511627776 < p.2)) ∧ Below w.heap.size w wr) (fun _ i _ => n - (intOf i).toNat)
    case atStart => exact ⟨0, Nat.zero_le _, rfl, World.ownsRow_nil _ _ _ _, fun j p hj => absurd hj (Nat.not_lt_zero _), Below.refl _ _⟩
    case round =>
      obtain ⟨k, hk, rfl, ho, hg, hb⟩ := hrel
      have HG := Lib.hid hg
      have HB := Lib.hid hb
      have zz := hb.size
      clear hg hb
      by_cases hlt : k < n
      · have hk64 : (k : Int) < (n : Int) := by omega
        have q1 : (k : Int) < (n1 : Int) := by have := HN.out; omega
        have q2 : (k : Int) < (n2 : Int) := by have := HN.out; omega
        obtain ⟨b1, o1, r, rfl, hb1, e1, d1, r1, r2⟩ := S1.out.at (k := k) (by omega)
        obtain ⟨b2, o2, m, rfl, hb2, e2, d2, m1, m2⟩ := S2.out.at (k := k) (by omega)
        have Z := Lib.hid (zip_at e1 e2)
        have D1 : wr.cell? ⟨b1, o1 + k, none⟩ = some (.int .i64 r) := (HB.out.cell (p := ⟨b1, o1 + k, none⟩) hb1).trans d1
        have D2 : wr.cell? ⟨b2, o2 + k, none⟩ = some (.int .i64 m) := (HB.out.cell (p := ⟨b2, o2 + k, none⟩) hb2).trans d2
        clear d1 d2 e1 e2
        by_cases g1 : m < 1
        · have JB : Hid (readyE R M = 2) := Lib.hid (by rw [J.out, badM_drop Z.out (.inl g1)]; rfl)
          go_wp2_with fail
          refine bodyPost_ret (v := ?_) ?_ rfl ?_
          rotate_left
          · simp [results, Try.results49, go_sem]; rfl
          · exact ⟨_, ret2s JB.out.symm, fun h => by rw [JB.out] at h; exact absurd h (by decide), HB.out⟩
        · by_cases g2 : 1099511627776 < m
          · have JB : Hid (readyE R M = 2) := Lib.hid (by rw [J.out, badM_drop Z.out (.inr g2)]; rfl)
            go_wp2_with fail
            refine bodyPost_ret (v := ?_) ?_ rfl ?_
            rotate_left
            · simp [results, Try.results49, go_sem]; rfl
            · exact ⟨_, ret2s JB.out.symm, fun h => by rw [JB.out] at h; exact absurd h (by decide), HB.out⟩
          · have X1 : 1 ≤ m := by omega
            have zb1 : b1 < wr.heap.size := by omega
            have zb2 : b2 < wr.heap.size := by omega
            go_wp2_with fail
            refine wp_region_G_tail 16 (TM r m) (by kernel_rfl) (by kernel_rfl) ?_
            simp only [List.take, List.drop]
            repeat' (refine wpG_step' (fun K hA hK => ?_); go_simp; first | (refine bothG_value hA (v := ?_) (fun w' hw' => ?_) ?_; rotate_left; (· go_simp; rfl); (refine hK _ _ ?_; clear hK hA K)) | (refine bothG_call (f := 72) (args := ?_) (fun w' => ?_) (fun w' _ => ?_) ?_; rotate_left; (· go_simp; rfl); (· exact tm_a r1 r2 X1 m2 _); (intro u xw hu; obtain rfl := hu.a rfl rfl; clear hu; refine hK _ _ ?_; clear hK hA K)) | (refine bothG_slice (ob := ?_) (l := 1) (c := 1) (fun w' => ?_) ?_; rotate_left; (· go_simp; rfl); (intro bn xv hm1 hm2 hm3; refine hK _ _ ?_; clear hK hA K)))
            refine wpG_nil ?_
            intro w2 hb2' hF
            have hx2 : Ext xv w2 := hF.2
            have hm4 := (hx2.block bn hm2).trans hm3
            have ho2 := ownsB ho hb2'
            have hB2 := HB.out.trans (hb2'.mono zz)
            have zw2 := hb2'.size
            clear hF hx2 hm2 hm3 ho hb2' HB D1 D2
            go_wp2_with (refine wpList_append_own _ rfl (.tmp 32) (.tmp 47) 79 rfl w.heap.size 101 I _ 2 16 und47 hi hz hsz hby rfl (by decide) _ k (flatP (rdy ((R.zip M).take k))) rfl ho2 ⟨bn, 0, none⟩ 1 1 [.int .i64 (r % m), .int .i64 m] rfl rfl (pr_cells hm4) (ints_one _ _) (by simp only [maxLen]; omega) (by omega) (by omega) ?_; intro v' w3 ow gr _)
            refine ⟨⟨k + 1, by omega, by go_num, by rw [rdy_take Z.out, flatP_snoc]; exact ow, fun j p hj hp => ?_, grownB hB2 gr ho2 (by omega)⟩, by simp [intOf]; omega⟩
            by_cases hjk : j = k
            · rw [hjk, Z.out] at hp; cases hp; show ¬ (m < 1 ∨ 1099511627776 < m); omega
            · exact HG.out j p (by omega) hp
      · obtain rfl : k = n := by omega
        have hlen : (R.zip M).length = k := by rw [List.length_zip, L.out.1, L.out.2, ← HN.out]
        have JB : Hid (readyE R M = 0) := Lib.hid (by rw [J.out, badM_false (fun j p hp => HG.out j p (by have := (List.getElem?_eq_some_iff.1 hp).1; omega) hp)]; rfl)
        have e : (R.zip M).take k = R.zip M := List.take_of_length_le (by omega)
        rw [e] at ho
        have P := Lib.hid (prs_of ho (by simp [rdy, hlen]) (by omega))
        clear ho e hlen
        go_wp2_with fail
        refine bodyPost_ret (v := ?_) ?_ rfl ?_
        rotate_left
        · simp [results, Try.results49, go_sem]; rfl
        · exact ⟨_, ret2s JB.out.symm, fun _ => P.out, HB.out⟩
end Go.Proofs.Ytdngkeefbpffcaa
