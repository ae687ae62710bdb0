import Derived.Test.YtgdkmakmdomdbaaPnT
set_option autoImplicit false
namespace Pn
/-! the load is a sum of parts -/
def uN (H : Nat) (L : List Tk) : Nat := (L.map fun t => t.lg.toNat * (H / t.ev.toNat)).sum
theorem gcd_split (a b : Nat) (h : 0 < a) : ∃ g p q, g = Nat.gcd a b ∧ 0 < g ∧ a = g * p ∧ b = g * q := by
  obtain ⟨p, hp⟩ := Nat.gcd_dvd_left a b
  obtain ⟨q, hq⟩ := Nat.gcd_dvd_right a b
  exact ⟨_, p, q, rfl, Nat.gcd_pos_of_pos_left _ h, hp, hq⟩
theorem loadS_eq {H U : Nat} {nd nd' : Nat × Nat} {t : Tk} (hd : 0 < nd.2) (hev : 0 < t.ev.toNat) (hH : t.ev.toNat ∣ H) (h : nd.1 * H = nd.2 * U) (e : loadS nd t = some nd') : 0 < nd'.2 ∧ nd'.1 * H = nd'.2 * (U + t.lg.toNat * (H / t.ev.toNat)) := by
  obtain ⟨n, d⟩ := nd
  simp only at hd h
  obtain ⟨g, p, q, hg, g0, hp, hq⟩ := gcd_split d t.ev.toNat hd
  obtain ⟨c, hc⟩ := hH
  have e0 : t.ev.toNat * c / t.ev.toNat = c := Nat.mul_div_cancel_left c hev
  unfold loadS at e
  simp only at e
  rw [← hg] at e
  have ed : d / g = p := by rw [hp]; exact Nat.mul_div_cancel_left p g0
  have ee : t.ev.toNat / g = q := by rw [hq]; exact Nat.mul_div_cancel_left q g0
  rw [ed, ee] at e
  split at e
  · cases e
  · cases e
    have p0 : 0 < p := by
      rcases Nat.eq_zero_or_pos p with h0 | h0
      · rw [h0] at hp; omega
      · exact h0
    have eps : 0 < p * t.ev.toNat := Nat.mul_pos p0 hev
    obtain ⟨k, a, b, hk, k0, ha, hb⟩ := gcd_split (p * t.ev.toNat) (n * q + t.lg.toNat * p) eps
    simp only
    rw [← hk]
    have ea : p * t.ev.toNat / k = a := by rw [ha]; exact Nat.mul_div_cancel_left a k0
    have eb : (n * q + t.lg.toNat * p) / k = b := by rw [hb]; exact Nat.mul_div_cancel_left b k0
    rw [ea, eb]
    have a0 : 0 < a := by
      rcases Nat.eq_zero_or_pos a with h0 | h0
      · rw [h0] at ha; omega
      · exact h0
    refine ⟨a0, ?_⟩
    have m : (n * q + t.lg.toNat * p) * H = (p * t.ev.toNat) * (U + t.lg.toNat * (H / t.ev.toNat)) := by
      rw [hc, e0, Nat.add_mul, Nat.mul_add]
      congr 1
      · rw [← hc]
        calc n * q * H = q * (n * H) := by ac_rfl
          _ = q * (d * U) := by rw [h]
          _ = q * (g * p * U) := by rw [← hp]
          _ = p * (g * q) * U := by ac_rfl
          _ = p * t.ev.toNat * U := by rw [← hq]
      · ac_rfl
    rw [ha, hb] at m
    have m2 : k * (b * H) = k * (a * (U + t.lg.toNat * (H / t.ev.toNat))) := by rw [← Nat.mul_assoc, ← Nat.mul_assoc]; exact m
    exact Nat.eq_of_mul_eq_mul_left k0 m2
theorem loadK_eq {H : Nat} : ∀ (L : List Tk) (U : Nat) (nd nd' : Nat × Nat), 0 < nd.2 → (∀ t ∈ L, 0 < t.ev.toNat ∧ t.ev.toNat ∣ H) → nd.1 * H = nd.2 * U → loadK nd L = some nd' → 0 < nd'.2 ∧ nd'.1 * H = nd'.2 * (U + uN H L)
  | [], U, nd, nd', hd, _, h, e => by cases e; exact ⟨hd, by unfold uN; simpa using h⟩
  | t :: L, U, nd, nd', hd, hL, h, e => by
    rw [loadK] at e
    split at e
    · cases e
    · rename_i nd1 e1
      obtain ⟨t0, t1⟩ := hL t (by simp)
      obtain ⟨a1, a2⟩ := loadS_eq hd t0 t1 h e1
      obtain ⟨b1, b2⟩ := loadK_eq L _ nd1 nd' a1 (fun x hx => hL x (by simp [hx])) a2 e
      refine ⟨b1, ?_⟩
      rw [b2]; unfold uN; simp only [List.map_cons, List.sum_cons]; rw [Nat.add_assoc]
def hN (L : List Tk) : Nat := (L.map fun t => t.ev.toNat).foldr (· * ·) 1
theorem hN_ok : ∀ (L : List Tk), (∀ t ∈ L, 0 < t.ev.toNat) → 0 < hN L ∧ ∀ t ∈ L, t.ev.toNat ∣ hN L
  | [], _ => ⟨by decide, fun t ht => by simp at ht⟩
  | t :: L, h => by
    obtain ⟨a, b⟩ := hN_ok L fun x hx => h x (by simp [hx])
    have e : hN (t :: L) = t.ev.toNat * hN L := rfl
    rw [e]
    refine ⟨Nat.mul_pos (h t (by simp)) a, fun x hx => ?_⟩
    rcases List.mem_cons.1 hx with rfl | hx
    · exact Nat.dvd_mul_right _ _
    · exact Nat.dvd_mul_left_of_dvd (b x hx) _
theorem uN_int {H : Nat} : ∀ (L : List Tk), (∀ t ∈ L, mayT t = true) → (L.map fun t => t.lg * ((H : Int) / t.ev)).sum = ((uN H L : Nat) : Int)
  | [], _ => rfl
  | t :: L, h => by
    have ih := uN_int (H := H) L fun x hx => h x (by simp [hx])
    obtain ⟨a, _, b, _⟩ := mayT_iff.1 (h t (by simp))
    have e : ((uN H (t :: L) : Nat) : Int) = ((t.lg.toNat * (H / t.ev.toNat) : Nat) : Int) + ((uN H L : Nat) : Int) := by unfold uN; simp
    rw [e, List.map_cons, List.sum_cons, ih, Int.natCast_mul, Int.natCast_ediv, Int.toNat_of_nonneg (by omega), Int.toNat_of_nonneg (by omega)]
theorem load_eq {L : List Tk} (h : ∀ t ∈ L, mayT t = true) (h1 : 0 < (loadF L).2) : ∃ H : Nat, 0 < H ∧ (∀ t ∈ L, t.ev.toNat ∣ H) ∧ (loadF L).1 * H = (loadF L).2 * uN H L := by
  have hp : ∀ t ∈ L, 0 < t.ev.toNat := fun t ht => by have := (mayT_iff.1 (h t ht)).1; omega
  obtain ⟨a, b⟩ := hN_ok L hp
  refine ⟨hN L, a, b, ?_⟩
  unfold loadF at h1 ⊢
  cases e : loadK (0, 1) L with
  | none => rw [e] at h1; simp at h1
  | some nd =>
    have := (loadK_eq (H := hN L) L 0 (0, 1) nd (by decide) (fun t ht => ⟨hp t ht, b t ht⟩) (by simp) e).2
    simpa using this
theorem ld_of_load {L : List Tk} (h : ∀ t ∈ L, mayT t = true) (h1 : 0 < (loadF L).2) (h2 : (loadF L).1 ≤ (loadF L).2) : Ld L := by
  obtain ⟨H, a, b, c⟩ := load_eq h h1
  refine ⟨(H : Int), by omega, fun t ht => ?_, ?_⟩
  · have := Int.natCast_dvd_natCast.2 (b t ht)
    rwa [Int.toNat_of_nonneg (by have := (mayT_iff.1 (h t ht)).1; omega)] at this
  · rw [uN_int L h]
    have : (loadF L).2 * uN H L ≤ (loadF L).2 * H := by rw [← c]; exact Nat.mul_le_mul_right _ h2
    have := Nat.le_of_mul_le_mul_left this h1
    omega
/-! calls -/
theorem edf_new {L : List Tk} (h : newE L = 0) (hl : Ld L) : Edf (newP L) := by
  have hi := inv_new h
  have ht : (newP L).l.map (·.t) = L := by unfold newP; simp [Function.comp_def]
  refine ⟨fun x hx => ?_, by rw [ht]; exact hl, ?_⟩
  · obtain ⟨t, _, rfl⟩ := List.mem_map.1 hx; exact .inl rfl
  · exact idle_dem hi.ln (by rw [ht]; exact hl) (fun x hx => by obtain ⟨t, _, rfl⟩ := List.mem_map.1 hx; rfl) fun x hx => by obtain ⟨t, _, rfl⟩ := List.mem_map.1 hx; exact Int.le_refl _
theorem edf_untilK {K : Nat} {T : Int} (hK : 1 ≤ K) (hT : T ≤ 1152921504606846976) : ∀ (f : Nat) (p : Pl), Inv K p → Edf p → Edf (untilK T f p).1 ∧ ∀ s ∈ (untilK T f p).2, s.late = false
  | 0, p, _, h => ⟨h, fun s hs => by simp [untilK] at hs⟩
  | f + 1, p, hI, hE => by
    rw [untilK]
    split
    · exact ⟨hE, fun s hs => by simp at hs⟩
    · rename_i hn
      split
      · rename_i l e
        exact ⟨edf_none hE hI hK e, fun s hs => by simp at hs⟩
      · rename_i l s due e
        obtain ⟨k, x, r, ws, ok⟩ := str_some hI.ln hK (by omega) e
        obtain ⟨c1, c2, c3⟩ := cutS_to (due := due) (ok.fr2 (by omega)) ok.to0
        have e1 := edf_str hE hI hK e
        have d1 := edf_due e1 ok
        have e2 := edf_run e1 ok c1 c2
        have i2 := inv_done ok hI.n0 (cutS_fr T due s).2 (cutS_fr T due s).1 rfl c1 c2 (by omega)
        have e3 : Edf (doneP l (cutS T due s)) := by
          unfold doneP
          rw [(cutS_fr T due s).2, (cutS_fr T due s).1, ok.tk]
          exact e2
        obtain ⟨r1, r2⟩ := edf_untilK hK hT f _ i2 e3
        refine ⟨r1, fun q hq => ?_⟩
        rcases List.mem_cons.1 hq with rfl | hq
        · unfold cutS
          split
          · simp only [decide_eq_false_iff_not]; omega
          · rw [ok.lt, decide_eq_false_iff_not]; omega
        · exact r2 q hq
theorem edf_until {K : Nat} {p : Pl} {T : Int} (hK : 1 ≤ K) (hI : Inv K p) (hE : Edf p) : Edf (untilP p T).1 ∧ ∀ s ∈ (untilP p T).2, s.late = false := edf_untilK hK (by unfold FAR; omega) _ p hI hE
theorem now_untilK {K : Nat} {T : Int} (hK : 1 ≤ K) (hT : T ≤ 1152921504606846976) : ∀ (f : Nat) (p : Pl), Inv K p → (untilK T f p).1.now ≤ max p.now T
  | 0, p, _ => by simp only [untilK]; omega
  | f + 1, p, hI => by
    rw [untilK]
    split
    · simp only; omega
    · rename_i hn
      split
      · simp only; omega
      · rename_i l s due e
        obtain ⟨k, x, r, ws, ok⟩ := str_some hI.ln hK (by omega) e
        obtain ⟨c1, c2, c3⟩ := cutS_to (due := due) (ok.fr2 (by omega)) ok.to0
        have i2 := inv_done ok hI.n0 (cutS_fr T due s).2 (cutS_fr T due s).1 rfl c1 c2 (by omega)
        have := now_untilK hK hT f _ i2
        have e2 : (doneP l (cutS T due s)).now = (cutS T due s).to := rfl
        simp only; omega
theorem now_until {K : Nat} {p : Pl} {T : Int} (hK : 1 ≤ K) (hI : Inv K p) : (untilP p T).1.now ≤ max p.now T := by
  have := now_untilK (T := min T FAR) hK (by unfold FAR; omega) 65536 p hI
  unfold untilP; omega
theorem edf_next {K : Nat} {p : Pl} (hK : 1 ≤ K) (hI : Inv K p) (hE : Edf p) (hl : p.l ≠ []) (hn : p.now + 2199023255552 ≤ 1152921504606846976) : Edf (nextP p).1 ∧ (nextP p).2.2 = 0 ∧ (nextP p).2.1.late = false ∧ (nextP p).1.now ≤ p.now + 2199023255552 ∧ (nextP p).1.l ≠ [] := by
  have fr : ∀ l' s due, strL p.l p.now FAR = (l', some (s, due)) → s.fr ≤ p.now + 1099511627776 := fun l' s due e => by
    unfold strL at e
    split at e
    · split at e
      · cases e
      · cases e
        simp only [slOf]
        obtain ⟨x, l0, hx⟩ := List.exists_cons_of_ne_nil hl
        have hm : relL p.now x ∈ rel p.now p.l := List.mem_map_of_mem (by rw [hx]; simp)
        have := minK_le_nx (lim := FAR) hm
        rw [rel_length] at this
        have := (rel_inv hI.ln (Int.le_refl p.now) hK _ hm).nx1
        omega
    · cases e; simp only [slOf]; omega
  have none : ∀ l', strL p.l p.now FAR ≠ (l', none) := fun l' e => by
    unfold strL at e
    split at e
    · split at e
      · rename_i hm
        obtain ⟨x, l0, hx⟩ := List.exists_cons_of_ne_nil hl
        have hq : relL p.now x ∈ rel p.now p.l := List.mem_map_of_mem (by rw [hx]; simp)
        have := minK_le_nx (lim := FAR) hq
        rw [rel_length] at this
        have := (rel_inv hI.ln (Int.le_refl p.now) hK _ hq).nx1
        unfold FAR at *
        omega
      · cases e
    · cases e
  unfold nextP
  split
  · rename_i h0; exact absurd h0 hl
  · split
    · rename_i l' e; exact absurd e (none l')
    · rename_i l' s due e
      have f1 := fr l' s due e
      obtain ⟨k, x, r, ws, ok⟩ := str_some hI.ln hK (show p.now ≤ FAR by unfold FAR; omega) e
      have t1 := ok.to1
      have x1 := (ok.ln x (List.mem_of_getElem? ok.hx)).lf1
      have hf : ¬ FAR < s.to := by unfold FAR; omega
      rw [if_neg hf]
      have e1 := edf_str hE hI hK e
      have d1 := edf_due e1 ok
      have e2 := edf_run e1 ok ok.to0 (Int.le_refl _)
      refine ⟨?_, rfl, ?_, ?_, ?_⟩
      · simp only; unfold doneP; rw [ok.tk]; exact e2
      · simp only; rw [ok.lt, decide_eq_false_iff_not]; omega
      · simp only [doneP]; omega
      · simp only [doneP]
        have := (List.getElem?_eq_some_iff.1 ok.hx).1
        intro h0
        have h1 := setL_len l' s.task (doneL (s.to - s.fr))
        rw [h0] at h1; simp at h1; omega
theorem len_str (l : List Ln) (now lim : Int) : (strL l now lim).1.length = l.length := by
  unfold strL; split
  · split <;> simp [rel_length]
  · simp [rel_length]
theorem len_next (p : Pl) : (nextP p).1.l.length = p.l.length := by
  have h := len_str p.l p.now FAR
  unfold nextP
  split
  · rfl
  · split
    · rfl
    · rename_i l s due e
      rw [e] at h
      split
      · rfl
      · simp only [doneP, setL_len]; exact h
end Pn
