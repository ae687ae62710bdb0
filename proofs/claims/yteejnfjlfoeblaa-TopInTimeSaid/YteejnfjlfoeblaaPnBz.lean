import Derived.Test.YteejnfjlfoeblaaPnRz
import Derived.Test.YteejnfjlfoeblaaPnSh
set_option autoImplicit false
set_option linter.unusedVariables false
namespace Pn
/-! never at rest where the load is above the whole -/
def wkN (x : Ln) : Int := fO x / x.t.ev * x.t.lg + (x.t.lg - lO x)
def Ov (ts : List Tk) : Prop := ∃ H : Int, 0 < H ∧ (∀ t ∈ ts, t.ev ∣ H) ∧ H < (ts.map fun t => t.lg * (H / t.ev)).sum
def busy (l : List Sl) : Int := (l.map fun s => s.to - s.fr).sum
structure Bz (p : Pl) : Prop where
  pur : ∀ x ∈ p.l, Pur x
  dv : ∀ x ∈ p.l, x.t.ev ∣ fO x
  ov : Ov (p.l.map (·.t))
  sum : (p.l.map wkN).sum = p.now
theorem ov_of_load {L : List Tk} (h : ∀ t ∈ L, mayT t = true) (h1 : 0 < (loadF L).2) (h2 : (loadF L).2 < (loadF L).1) : Ov L := by
  obtain ⟨H, a, b, c⟩ := load_eq h h1
  refine ⟨(H : Int), by omega, fun t ht => ?_, ?_⟩
  · have := Int.natCast_dvd_natCast.2 (b t ht)
    rwa [Int.toNat_of_nonneg (by have := (mayT_iff.1 (h t ht)).1; omega)] at this
  · rw [uN_int L h]
    have e1 : (loadF L).2 * H < (loadF L).1 * H := Nat.mul_lt_mul_of_pos_right h2 a
    rw [c] at e1
    have := Nat.lt_of_mul_lt_mul_left e1
    omega
theorem wkN_rel {x : Ln} (T : Int) (h : Pur x) (he : 1 ≤ x.t.ev) : wkN (relL T x) = wkN x := by
  obtain ⟨_, h1, h2, h3⟩ := pur_rel T h he
  unfold wkN; rw [h1, h2, h3]
theorem Bz.rel {K : Nat} {p : Pl} (h : Bz p) (hi : ∀ x ∈ p.l, InL K p.now x) (T : Int) : Bz ⟨Pn.rel T p.l, p.now⟩ := by
  refine ⟨fun x hx => ?_, fun x hx => ?_, by simp only; rw [tks_rel]; exact h.ov, ?_⟩
  · obtain ⟨y, hy, rfl⟩ := List.mem_map.1 hx
    exact (pur_rel T (h.pur y hy) (hi y hy).ev1).1
  · obtain ⟨y, hy, rfl⟩ := List.mem_map.1 hx
    obtain ⟨_, h1, _, h3⟩ := pur_rel T (h.pur y hy) (hi y hy).ev1
    rw [h1, h3]; exact h.dv y hy
  · simp only
    rw [← h.sum]
    unfold Pn.rel
    rw [List.map_map]
    exact congrArg _ (List.map_congr_left fun x hx => wkN_rel T (h.pur x hx) (hi x hx).ev1)
theorem sum_low {l : List Ln} {f : Ln → Int} {H E : Int} (h : ∀ x ∈ l, x.t.lg * (H / x.t.ev) * E ≤ f x * H) : ((l.map (·.t)).map fun t => t.lg * (H / t.ev)).sum * E ≤ (l.map f).sum * H := by
  induction l with
  | nil => simp
  | cons a l ih =>
    have := h a (by simp)
    have := ih (fun x hx => h x (by simp [hx]))
    simp only [List.map_cons, List.sum_cons, Int.add_mul] at *
    omega
/-- where the load is above the whole something waits at every tick -/
theorem Bz.wait {K : Nat} {p : Pl} (h : Bz p) (hi : ∀ x ∈ p.l, InL K p.now x) (h0 : 0 ≤ p.now) (hn : ∀ x ∈ p.l, p.now < x.nx) (hw : ∀ x ∈ p.l, x.wt = []) : False := by
  obtain ⟨H, a, b, c⟩ := h.ov
  have lo : ((p.l.map (·.t)).map fun t => t.lg * (H / t.ev)).sum * (p.now + 1) ≤ (p.l.map wkN).sum * H := sum_low fun x hx => by
    obtain ⟨q, hq⟩ := b x.t (List.mem_map_of_mem hx)
    have ix := hi x hx
    have e1 := ix.ev1
    have l1 := ix.lg1
    have n1 := hn x hx
    have f1 : fO x = x.nx := by unfold fO; rw [hw x hx]
    have f2 : lO x = x.t.lg := by unfold lO; rw [hw x hx]
    obtain ⟨m, hm⟩ := h.dv x hx
    rw [f1] at hm
    have w1 : wkN x = m * x.t.lg := by
      unfold wkN; rw [f1, f2, hm, Int.mul_ediv_cancel_left m (by omega)]; omega
    have q0 : 0 ≤ q := by
      rcases Int.lt_or_le q 0 with hq' | hq'
      · have := Int.mul_neg_of_pos_of_neg (a := x.t.ev) (b := q) (by omega) hq'; omega
      · exact hq'
    rw [w1, hq, Int.mul_ediv_cancel_left q (by omega)]
    have e : m * x.t.lg * (x.t.ev * q) = x.t.lg * q * (x.t.ev * m) := by ac_rfl
    rw [e, ← hm]
    exact Int.mul_le_mul_of_nonneg_left (by omega) (Int.mul_nonneg (by omega) q0)
  rw [h.sum] at lo
  have e2 : H * (p.now + 1) < ((p.l.map (·.t)).map fun t => t.lg * (H / t.ev)).sum * (p.now + 1) := Int.mul_lt_mul_of_pos_right c (by omega)
  rw [Int.mul_add, Int.mul_comm] at e2
  omega
/-- the stretch begins now -/
theorem Bz.str {K : Nat} {p : Pl} {lim : Int} (h : Bz p) (hI : Inv K p) (hK : 1 ≤ K) : ∃ s due, strL p.l p.now lim = (Pn.rel p.now p.l, some (s, due)) ∧ s.fr = p.now := by
  have i1 := rel_inv hI.ln (Int.le_refl p.now) hK
  have n1 := rel_nx (T := p.now) hI.ln
  unfold strL
  split
  · rename_i hneg
    exfalso
    have hw : ∀ x ∈ Pn.rel p.now p.l, x.wt = [] := by
      rcases best_idx (Pn.rel p.now p.l) with ⟨_, h⟩ | ⟨i, _, h, _⟩
      · exact h
      · omega
    exact (h.rel hI.ln p.now).wait (K := K) i1 hI.n0 n1 hw
  · exact ⟨_, _, rfl, rfl⟩
theorem Bz.run {K : Nat} {now lim due tz : Int} {l' : List Ln} {s : Sl} {k : Nat} {x : Ln} {r : Rn} {ws : List Rn} (h : Bz ⟨l', s.fr⟩) (ok : StrOk K now lim l' s due k x r ws) (h1 : s.fr < tz) (h2 : tz ≤ s.to) : Bz ⟨setL l' k (doneL (tz - s.fr)), tz⟩ := by
  have hx := List.mem_of_getElem? ok.hx
  have ix := ok.ln x hx
  have e1 := ix.ev1
  have t1 := ok.to1
  obtain ⟨q1, q2, q3, q4⟩ := pur_done2 (d := tz - s.fr) (h.pur x hx) ok.hw
  obtain ⟨d1, d2, _⟩ := pur_done (d := tz - s.fr) (h.pur x hx) ok.hw (by omega) e1
  have lfx : lO x = x.lf := by unfold lO; rw [ok.hw]
  have ts : (setL l' k (doneL (tz - s.fr))).map (·.t) = l'.map (·.t) := tks_setL l' k (tz - s.fr)
  have dv := h.dv x hx
  refine ⟨fun y hy => ?_, fun y hy => ?_, by simp only; rw [ts]; exact h.ov, ?_⟩
  · rcases setL_mem hy with hy | ⟨x', hx', rfl⟩
    · exact h.pur y hy
    · rw [ok.hx] at hx'; cases hx'; exact d1
  · rcases setL_mem hy with hy | ⟨x', hx', rfl⟩
    · exact h.dv y hy
    · rw [ok.hx] at hx'; cases hx'
      rw [q2]
      by_cases c : 0 < x.lf - (tz - s.fr)
      · rw [(q3 c).1]; exact dv
      · rw [(q4 c).1]; exact Int.dvd_add dv (Int.dvd_refl _)
  · simp only
    have e : ((setL l' k (doneL (tz - s.fr))).map wkN).sum = (l'.map wkN).sum - wkN x + wkN (doneL (tz - s.fr) x) := by
      unfold setL; rw [Int.toNat_natCast]; exact sum_modify ok.hx
    have hs := h.sum
    simp only at hs
    rw [e, hs]
    unfold wkN
    rw [q2, lfx]
    by_cases c : 0 < x.lf - (tz - s.fr)
    · rw [(q3 c).1, (q3 c).2]; omega
    · rw [(q4 c).1, (q4 c).2, Int.add_ediv_of_dvd_right (Int.dvd_refl _), Int.ediv_self (by omega), Int.add_mul]; omega
theorem busy_app (A B : List Sl) : busy (A ++ B) = busy A + busy B := by unfold busy; rw [List.map_append, List.sum_append]
theorem bz_untilK {K : Nat} {T : Int} (hK : 1 ≤ K) (hT : T ≤ 1152921504606846976) : ∀ (f : Nat) (p : Pl), Inv K p → Bz p → Bz (untilK T f p).1 ∧ busy (untilK T f p).2 = (untilK T f p).1.now - p.now
  | 0, p, _, h => ⟨h, by simp only [untilK, busy, List.map_nil, List.sum_nil]; omega⟩
  | f + 1, p, hI, hB => by
    rw [untilK]
    split
    · exact ⟨hB, by simp only [busy, List.map_nil, List.sum_nil]; omega⟩
    · rename_i hn
      obtain ⟨s, due, e, hf⟩ := hB.str (lim := T) hI hK
      rw [e]
      simp only
      obtain ⟨k, x, r, ws, ok⟩ := str_some hI.ln hK (by omega) e
      obtain ⟨c1, c2, c3⟩ := cutS_to (due := due) (ok.fr2 (by omega)) ok.to0
      have b1 : Bz ⟨rel p.now p.l, s.fr⟩ := by rw [hf]; exact hB.rel hI.ln p.now
      have b2 := b1.run ok c1 c2
      have i2 := inv_done ok hI.n0 (cutS_fr T due s).2 (cutS_fr T due s).1 rfl c1 c2 (by omega)
      have b3 : Bz (doneP (rel p.now p.l) (cutS T due s)) := by
        unfold doneP
        rw [(cutS_fr T due s).2, (cutS_fr T due s).1, ok.tk]
        exact b2
      obtain ⟨r1, r2⟩ := bz_untilK hK hT f _ i2 b3
      refine ⟨r1, ?_⟩
      have e4 : busy (cutS T due s :: (untilK T f (doneP (rel p.now p.l) (cutS T due s))).2) = ((cutS T due s).to - (cutS T due s).fr) + busy (untilK T f (doneP (rel p.now p.l) (cutS T due s))).2 := by unfold busy; rw [List.map_cons, List.sum_cons]
      rw [e4, r2, (cutS_fr T due s).1, hf]
      have e2 : (doneP (rel p.now p.l) (cutS T due s)).now = (cutS T due s).to := rfl
      omega
theorem bz_new {L : List Tk} (h : newE L = 0) (ho : Ov L) : Bz (newP L) := by
  have hx0 : ∀ x ∈ (newP L).l, x.wt = [] ∧ x.nx = 0 := fun x hx => by obtain ⟨t, _, rfl⟩ := List.mem_map.1 hx; exact ⟨rfl, rfl⟩
  refine ⟨fun x hx => .inl (hx0 x hx).1, fun x hx => ?_, ?_, ?_⟩
  · obtain ⟨a, b⟩ := hx0 x hx
    unfold fO; rw [a]; simp only [b]; exact Int.dvd_zero _
  · have : (newP L).l.map (·.t) = L := by unfold newP; simp [Function.comp_def]
    rw [this]; exact ho
  · show _ = (0 : Int)
    refine sum_zero fun x hx => ?_
    obtain ⟨a, b⟩ := hx0 x hx
    unfold wkN fO lO; rw [a]; simp only [b]; simp
/-! a task's share of stretches -/
def share (l : List Sl) (t : Int) : Int := (l.map fun s => if s.task = t then s.to - s.fr else 0).sum
theorem share_snoc (l : List Sl) (s : Sl) (t : Int) : share (l ++ [s]) t = share l t + if s.task = t then s.to - s.fr else 0 := by
  unfold share; rw [List.map_append, List.sum_append]; simp
theorem share_nil (t : Int) : share [] t = 0 := rfl
theorem share_bd {e t : Int} : ∀ {l : List Sl} {a : Int}, a ≤ e → Rise a e l → 0 ≤ share l t ∧ share l t ≤ e - a
  | [], a, h, _ => by rw [share_nil]; omega
  | s :: l, a, h, ⟨h1, h2, h3, h4⟩ => by
    have ih := share_bd (t := t) h3 h4
    have e1 : share (s :: l) t = (if s.task = t then s.to - s.fr else 0) + share l t := by unfold share; rw [List.map_cons, List.sum_cons]
    rw [e1]; split <;> omega
theorem busy_bd {e : Int} : ∀ {l : List Sl} {a : Int}, a ≤ e → Rise a e l → 0 ≤ busy l ∧ busy l ≤ e - a
  | [], a, h, _ => by show 0 ≤ (0 : Int) ∧ (0 : Int) ≤ e - a; omega
  | s :: l, a, h, ⟨h1, h2, h3, h4⟩ => by
    have ih := busy_bd h3 h4
    have e1 : busy (s :: l) = (s.to - s.fr) + busy l := by unfold busy; rw [List.map_cons, List.sum_cons]
    rw [e1]; omega
theorem rise_take {e : Int} : ∀ {l : List Sl} {a : Int} (k : Nat), Rise a e l → Rise a e (l.take k)
  | [], _, k, _ => by simp [Rise]
  | s :: l, a, 0, _ => trivial
  | s :: l, a, k + 1, ⟨h1, h2, h3, h4⟩ => ⟨h1, h2, h3, rise_take k h4⟩
theorem rise_pre {e : Int} {s : Sl} : ∀ {l : List Sl} {a : Int}, Rise a e (l ++ [s]) → Rise a s.fr l ∧ s.fr < s.to ∧ s.to ≤ e ∧ a ≤ s.fr
  | [], a, ⟨h1, h2, h3, _⟩ => ⟨trivial, h2, h3, h1⟩
  | x :: l, a, ⟨h1, h2, h3, h4⟩ => by
    obtain ⟨r1, r2, r3, r4⟩ := rise_pre h4
    exact ⟨⟨h1, h2, by omega, r1⟩, r2, r3, by omega⟩
theorem runS_off {e : Int} : ∀ {l : List Sl} {a : Int} (r0 k : Int), Rise a e l → e ≤ k → l.foldl (fun r s => if s.fr ≤ k ∧ k < s.to then s.task else r) r0 = r0
  | [], _, _, _, _, _ => rfl
  | s :: l, a, r0, k, ⟨h1, h2, h3, h4⟩, hk => by
    rw [List.foldl_cons, if_neg (by omega)]
    exact runS_off r0 k h4 hk
theorem cnt_share {t : Int} (ht : 0 ≤ t) (n : Nat) : ∀ (m : Nat) (l : List Sl) (e : Int), l.length = m → e ≤ n → Rise 0 e l → cntN (fun k => runS l k) t 0 n = share l t
  | 0, l, e, hm, _, _ => by
    obtain rfl := List.eq_nil_of_length_eq_zero hm
    rw [cnt_zero t ht, share_nil]
  | m + 1, l, e, hm, he, h => by
    rcases List.eq_nil_or_concat l with rfl | ⟨l0, s, hl⟩
    · simp at hm
    · rw [List.concat_eq_append] at hl
      subst hl
      obtain ⟨r1, r2, r3, r4⟩ := rise_pre h
      have ih := cnt_share ht n m l0 s.fr (by simpa using hm) (by omega) r1
      have c := cnt_snoc (l := l0) (s := s) ht (by omega) (fun k hk => runS_off (-1) k r1 hk) 0 n
      rw [c, ih, share_snoc]
      split <;> omega
theorem cntN_add (f : Nat → Int) (t : Int) (a n : Nat) : ∀ m, cntN f t a (n + m) = cntN f t a n + cntN f t (a + n) m
  | 0 => by simp [cntN]
  | m + 1 => by
    have := cntN_add f t a n m
    rw [← Nat.add_assoc]
    simp only [cntN]
    rw [this, Nat.add_assoc a n m]
    omega
theorem cntN_per (f : Nat → Int) (t : Int) (E : Nat) (v : Int) : ∀ m, (∀ j < m, cntN f t (j * E) E = v) → cntN f t 0 (m * E) = m * v
  | 0, _ => by simp [cntN]
  | m + 1, h => by
    rw [Nat.add_mul, Nat.one_mul, cntN_add, cntN_per f t E v m (fun j hj => h j (by omega)), Nat.zero_add, h m (by omega)]
    rw [show ((m + 1 : Nat) : Int) = (m : Int) + 1 from by omega, Int.add_mul]; omega
theorem share_of {F : List Tk} (hE : newE F = 0) (hl : Ld F) {H : Nat} (h0 : H ≤ 65536) (hd : ∀ t ∈ F, t.ev ∣ (H : Int)) {i : Nat} {t : Tk} (hi : F[i]? = some t) {parts : List Sl} (hr : Rise 0 H parts) (hq : ∀ k, runS (untilK H 65536 (newP F)).2 k = runS parts k) : share parts i = (H : Int) / t.ev * t.lg := by
  have mt := List.mem_of_getElem? hi
  have may : mayT t = true := by
    unfold newE at hE
    split at hE
    · omega
    · split at hE
      · rename_i ha; exact List.all_eq_true.1 ha t mt
      · omega
  have e1 := (mayT_iff.1 may).1
  obtain ⟨E, hE2⟩ : ∃ E : Nat, t.ev = (E : Int) := ⟨t.ev.toNat, by omega⟩
  have eT : t.ev.toNat = E := by omega
  have d := hd t mt
  rw [hE2] at d
  obtain ⟨m, hm⟩ := Int.natCast_dvd_natCast.1 d
  rw [← cnt_share (t := i) (by omega) H parts.length parts H rfl (Int.le_refl _) hr]
  have ef : (fun k : Nat => runS parts k) = (fun k : Nat => runS (untilK H 65536 (newP F)).2 k) := funext fun k => (hq k).symm
  rw [ef, hE2]
  have hmE : H = m * E := by rw [hm, Nat.mul_comm]
  have key := cntN_per (fun k : Nat => runS (untilK H 65536 (newP F)).2 k) i E t.lg m fun j hj => by
    have := shares_of hE hl h0 hd hi (m := j) (by rw [eT, hmE]; exact Nat.mul_lt_mul_of_pos_right hj (by omega))
    rw [eT] at this; exact this
  rw [show cntN (fun k : Nat => runS (untilK H 65536 (newP F)).2 k) i 0 H = cntN (fun k : Nat => runS (untilK H 65536 (newP F)).2 k) i 0 (m * E) by rw [← hmE], key]
  have : (H : Int) / (E : Int) = m := by rw [hm, Int.natCast_mul]; exact Int.mul_ediv_cancel_left _ (by omega)
  rw [this]
/-! what has been told in several goes, and how the lines stand -/
structure RwB (F : List Tk) (last at_ : Int) (st : Pl) (parts : List Sl) : Prop where
  i : RwI F last at_ st parts
  tks : st.l.map (·.t) = F
  late : Ld F → Edf st ∧ ∀ s ∈ parts, s.late = false
  busy : Ov F → Bz st ∧ Pn.busy parts = at_
  task : ∀ s ∈ parts, 0 ≤ s.task ∧ s.task < (F.length : Int)
theorem rwb_new {F : List Tk} {last : Int} (h : newE F = 0) (h0 : 0 ≤ last) (h1 : last ≤ 1000) : RwB F last 0 (newP F) [] :=
  ⟨rwi_new h h0 h1, by unfold newP; simp [Function.comp_def], fun l => ⟨edf_new h l, fun s hs => by cases hs⟩, fun o => ⟨bz_new h o, rfl⟩, fun s hs => by cases hs⟩
theorem rwb_step {F : List Tk} {last a t : Int} {st : Pl} {parts : List Sl} (h : RwB F last a st parts) (h1 : a ≤ t) (h2 : t ≤ last) (h3 : last ≤ 1000) : RwB F last t (untilP st t).1 (parts ++ (untilP st t).2) := by
  have hn := h.i.now
  have n0 := h.i.inv.n0
  have u : untilP st t = untilK t 65536 st := by unfold untilP; rw [show min t FAR = t by unfold FAR; omega]
  have I := rwi_step h.i h1 h2 h3
  have hl : st.l.length = F.length := by rw [← h.tks, List.length_map]
  refine ⟨I, ?_, fun l => ?_, fun o => ?_, fun s hs => (List.mem_append.1 hs).elim (h.task s) fun hs => by have := task_untilP (T := t) h.i.inv s hs; rw [hl] at this; exact this⟩
  · rw [u, tks_untilK]; exact h.tks
  · obtain ⟨a1, a2⟩ := h.late l
    obtain ⟨b1, b2⟩ := edf_until (T := t) (Nat.le_refl 1) h.i.inv a1
    refine ⟨b1, fun s hs => ?_⟩
    rcases List.mem_append.1 hs with hs | hs
    · exact a2 s hs
    · exact b2 s hs
  · obtain ⟨a1, a2⟩ := h.busy o
    obtain ⟨b1, b2⟩ := bz_untilK (T := t) (Nat.le_refl 1) (by omega) 65536 st h.i.inv a1
    rw [u]
    refine ⟨b1, ?_⟩
    have n2 := I.now
    rw [u] at n2
    rw [busy_app, a2, b2, n2, hn]; omega
theorem rwb_task {F : List Tk} {last a : Int} {st : Pl} {parts : List Sl} (h : RwB F last a st parts) : st.l.length = F.length := by rw [← h.tks, List.length_map]
end Pn
