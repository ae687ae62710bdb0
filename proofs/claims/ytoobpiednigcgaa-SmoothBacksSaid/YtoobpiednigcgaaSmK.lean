import Derived.Test.YtoobpiednigcgaaSmB
import Derived.Test.YtoobpiednigcgaaSmA
set_option autoImplicit false
set_option linter.unusedVariables false
namespace Go.Proofs.Ytoobpiednigcgaa
open Go.RowKit Lk
/-- what Back's head knows -/
structure KP (w : World) (a a' : Option Addr) (n m c c' : Nat) (L : List St) (S : List Nat) (q : Nat) (w1 : World) : Prop where
  b1 : Bx w1 w.heap.size (.slice a n c)
  b2 : Bx w1 (w.heap.size + 1) (.slice a' m c')
  b3 : Bx w1 (w.heap.size + 2) (.float .f64 q)
  s0 : Ss w a n c L
  s0' : Fs w a' m c' S
  hb : Below w.heap.size w w1
theorem KP.keep {w w1 w2 : World} {a a' : Option Addr} {n m c c' : Nat} {L : List St} {S : List Nat} {q : Nat} (h : KP w a a' n m c c' L S q w1) (b : Below w1.heap.size w1 w2) : KP w a a' n m c c' L S q w2 :=
  ⟨h.b1.keep b, h.b2.keep b, h.b3.keep b, h.s0, h.s0', h.hb.trans (b.mono h.hb.size)⟩
theorem KP.s {w w1 : World} {a a' : Option Addr} {n m c c' : Nat} {L : List St} {S : List Nat} {q : Nat} (h : KP w a a' n m c c' L S q w1) : Ss w1 a n c L := h.s0.keep h.hb
theorem KP.s' {w w1 : World} {a a' : Option Addr} {n m c c' : Nat} {L : List St} {S : List Nat} {q : Nat} (h : KP w a a' n m c c' L S q w1) : Fs w1 a' m c' S := h.s0'.keep h.hb
theorem KP.start {w : World} {a a' : Option Addr} {n m c c' : Nat} {L : List St} {S : List Nat} {q : Nat} (s : Ss w a n c L) (s' : Fs w a' m c' S) :
    KP w a a' n m c c' L S q (((w.alloc (.cells #[.slice a n c] 22)).alloc (.cells #[.slice a' m c'] 23)).alloc (.cells #[.float .f64 q] 24)) := by
  have b : Below w.heap.size w (((w.alloc (.cells #[.slice a n c] 22)).alloc (.cells #[.slice a' m c'] 23)).alloc (.cells #[.float .f64 q] 24)) := by (repeat' (first | exact Below.refl _ _ | refine below_drewN ?_ _ | refine Below.setCell ?_ (by first | exact Nat.le_refl _ | (simp; done) | (simp; omega)) _ | refine Below.alloc ?_ (by first | exact Nat.le_refl _ | (simp; done) | (simp; omega)) _))
  exact ⟨((Bx.new w _ _).old _).old _, (Bx.new' _ _ _ (by simp)).old _, Bx.new' _ _ _ (by simp), s, s', b⟩
/-- a list of states handed back: nil, or in memory of the call's own -/
def RS (w : World) (B : Nat) (v : Value) (R : List St) : Prop := (v = .slice none 0 0 ∧ R = []) ∨ ∃ g co, v = .slice (some ⟨g, 0, none⟩) R.length co ∧ B ≤ g ∧ R.length ≤ co ∧ co ≤ 9223372036854775807 ∧ OutS w g R
theorem RS.mono {w : World} {B B' : Nat} {v : Value} {R : List St} (h : RS w B v R) (hb : B' ≤ B) : RS w B' v R := by
  rcases h with h | ⟨g, co, h1, h2, h3⟩
  · exact .inl h
  · exact .inr ⟨g, co, h1, Nat.le_trans hb h2, h3⟩
theorem RS.keep {w w' : World} {B : Nat} {v : Value} {R : List St} (h : RS w B v R) (hb : Below w.heap.size w w') : RS w' B v R := by
  rcases h with h | ⟨g, co, h1, h2, h3, h4, h5⟩
  · exact .inl h
  · exact .inr ⟨g, co, h1, h2, h3, h4, h5.keep hb⟩
def backR (L : List St) (S : List Nat) (q : Nat) : List St := if backE L S q = 0 then backL L S q else []
def BackP (L : List St) (S : List Nat) (q : Nat) (w : World) (e : Ending) (w' : World) : Prop :=
  ∃ v, e = .returned (.tuple #[v, .int .i64 (backE L S q)]) ∧ RS w' w.heap.size v (backR L S q) ∧ Below w.heap.size w w'
theorem backP_err {L : List St} {S : List Nat} {q : Nat} {w w' : World} {k : Int} (h : backE L S q = k) (h0 : k ≠ 0) (hb : Below w.heap.size w w') : BackP L S q w (.returned (.tuple #[.slice none 0 0, .int .i64 k])) w' :=
  ⟨_, by rw [h], .inl ⟨rfl, by unfold backR; rw [h, if_neg h0]⟩, hb⟩
theorem may_b (s : St) (b : Bool) (hb : mayF s = b) (hl : St.Lt s) (w : World) : Calls Try.prog 23 #[sv5 s] w (fun e w' => e = .returned (.bool b) ∧ Below w.heap.size w w') := by
  subst hb; exact may_walk s.x s.v s.pxx s.pxv s.pvv w hl
theorem all_snoc {l : List St} {k : Nat} {x : St} (h : l[k]? = some x) : (l.take (k + 1)).all mayF = ((l.take k).all mayF && mayF x) := by
  rw [take_snoc' h, List.all_append]; simp
theorem all_not {l : List St} {k : Nat} {x : St} (h : l[k]? = some x) (hx : mayF x = false) : l.all mayF = false := by
  rw [List.all_eq_false]
  obtain ⟨h1, h2⟩ := List.getElem?_eq_some_iff.1 h
  exact ⟨x, h2 ▸ List.getElem_mem h1, by simp [hx]⟩
theorem ok_snoc {l : List Nat} {k : Nat} {x : Nat} (h : l[k]? = some x) : (l.take (k + 1)).all okT = ((l.take k).all okT && okT x) := by
  rw [take_snoc' h, List.all_append]; simp
theorem ok_not {l : List Nat} {k : Nat} {x : Nat} (h : l[k]? = some x) (hx : okT x = false) : l.all okT = false := by
  rw [List.all_eq_false]
  obtain ⟨h1, h2⟩ := List.getElem?_eq_some_iff.1 h
  exact ⟨x, h2 ▸ List.getElem_mem h1, by simp [hx]⟩
/-- the answers, k of them put in place from behind -/
def outK (L : List St) (S : List Nat) (q k : Nat) : List St := (List.range L.length).map fun i => if L.length - 1 - k ≤ i then bkF L S q (L.length - 1 - i) else L.getD i ⟨0, 0, 0, 0, 0⟩
theorem outK_len (L : List St) (S : List Nat) (q k : Nat) : (outK L S q k).length = L.length := by simp [outK]
theorem outK_get {L : List St} {S : List Nat} {q k i : Nat} (hi : i < L.length) : (outK L S q k)[i]? = some (if L.length - 1 - k ≤ i then bkF L S q (L.length - 1 - i) else L.getD i ⟨0, 0, 0, 0, 0⟩) := by
  unfold outK; rw [List.getElem?_map, List.getElem?_range hi]; rfl
theorem getS {L : List St} {i : Nat} {s : St} (h : L[i]? = some s) : L.getD i ⟨0, 0, 0, 0, 0⟩ = s := by rw [List.getD_eq_getElem?_getD, h]; rfl
theorem outK_zero (L : List St) (S : List Nat) (q : Nat) : outK L S q 0 = L := by
  apply List.ext_getElem?
  intro i
  by_cases hi : i < L.length
  · rw [outK_get hi, List.getElem?_eq_getElem hi]
    have hs := getS (List.getElem?_eq_getElem hi)
    by_cases h : L.length - 1 - 0 ≤ i
    · rw [if_pos h]
      have e : i = L.length - 1 := by omega
      rw [show L.length - 1 - i = 0 by omega]
      show some (L.getD (L.length - 1) _) = _
      rw [← e, hs]
    · rw [if_neg h, hs]
  · rw [List.getElem?_eq_none (by rw [outK_len]; omega), List.getElem?_eq_none (by omega)]
theorem outK_end (L : List St) (S : List Nat) (q : Nat) : outK L S q (L.length - 1) = backL L S q := by
  unfold outK backL
  apply List.map_congr_left
  intro i hi
  rw [if_pos (by omega)]
theorem outK_step {L : List St} {S : List Nat} {q k i : Nat} {s : St} {d : Nat} (hi : i + k + 2 = L.length) (hs : L[i]? = some s) (hd : S[i]? = some d) :
    (outK L S q k).set i (stepF s d q (bkF L S q k)) = outK L S q (k + 1) := by
  apply List.ext_getElem?
  intro j
  rw [List.getElem?_set]
  by_cases hj : j < L.length
  · rw [outK_get hj, outK_get hj, outK_len]
    by_cases e : i = j
    · subst e
      rw [if_pos rfl, if_pos (by omega), if_pos (by omega), show L.length - 1 - i = k + 1 by omega]
      show _ = some (stepF (L.getD (L.length - 1 - (k + 1)) _) (S.getD (L.length - 1 - (k + 1)) 0) q (bkF L S q k))
      rw [show L.length - 1 - (k + 1) = i by omega, getS hs, getD_of hd]
    · rw [if_neg e]
      by_cases h : L.length - 1 - k ≤ j
      · rw [if_pos h, if_pos (by omega)]
      · rw [if_neg h, if_neg (by omega)]
  · by_cases e : i = j
    · omega
    · rw [if_neg e, List.getElem?_eq_none (by rw [outK_len]; omega), List.getElem?_eq_none (by rw [outK_len]; omega)]
theorem outS_of {w : World} {B g n co : Nat} {L : List St} (h : w.ownsRow B 27 5 (.slice (some ⟨g, 0, none⟩) n co) n (flat L)) (hl : L.length = n) : OutS w g L := by
  rcases h.2 with ⟨h, _⟩ | ⟨g', cap, cur, he, _, hg, hc, _, hs, ht⟩
  · cases h
  · cases he
    refine ⟨cur, hg, fun j s hj => ?_⟩
    have hjl := (List.getElem?_eq_some_iff.1 hj).1
    have key : ∀ r, r < 5 → cur[j * 5 + r]? = (flat.fl5' s)[r]? := by
      intro r hr
      rw [← flat_get hj hr, ← ht, List.getElem?_take, if_pos (by omega)]
      simp
    exact ⟨key 0 (by omega), key 1 (by omega), key 2 (by omega), key 3 (by omega), key 4 (by omega)⟩
theorem rs_of_own {w : World} {B n c : Nat} {a : Option Addr} {L : List St} (h : w.ownsRow B 27 5 (.slice a n c) n (flat L)) (hl : L.length = n) : RS w B (.slice a n c) L := by
  rcases h.2 with ⟨e, h0⟩ | ⟨g, cap, cur, e, hB, hg, hc, hm, _, _⟩
  · left
    subst h0
    exact ⟨e, List.eq_nil_of_length_eq_zero hl⟩
  · right
    cases e
    exact ⟨g, c, by rw [hl], hB, by omega, by unfold maxLen at hm; omega, outS_of h hl⟩
theorem own_some {w : World} {B E sz n c : Nat} {a : Option Addr} {xs : List Value} (h : w.ownsRow B E sz (.slice a n c) n xs) (hn : 0 < n) : ∃ g, a = some ⟨g, 0, none⟩ ∧ B ≤ g ∧ g < w.heap.size ∧ n ≤ c ∧ c ≤ 9223372036854775807 := by
  rcases h.2 with ⟨e, h0⟩ | ⟨g, cap, cur, e, hB, hg, hc, hm, _, _⟩
  · omega
  · cases e
    exact ⟨g, rfl, hB, (Array.getElem?_eq_some_iff.1 hg).1, hc, by unfold maxLen at hm; omega⟩
set_option maxRecDepth 100000 in
set_option maxHeartbeats 8000000 in
theorem back_walk (a a' : Option Addr) (N M c c' : Nat) (L : List St) (S : List Nat) (q : Nat) (w : World) (s : Ss w a N c L) (s' : Fs w a' M c' S) (hq : q < 2 ^ 64) :
    Calls Try.prog 11 #[.slice a N c, .slice a' M c', .float .f64 q] w (BackP L S q w) := by
  have n63 : N ≤ 9223372036854775807 := Nat.le_trans s.le s.small
  have m63 : M ≤ 9223372036854775807 := Nat.le_trans s'.le s'.small
  have P0 := Lib.hid (KP.start (q := q) s s')
  have LL := Lib.hid s.len
  have LS := Lib.hid s'.len
  have hmf := hmf
  have R0 : backE L S q = if 1024 < N then 3 else if M ≠ N - 1 then 5 else if !(L.all mayF) then 6 else if !(okT q && S.all okT) then 6 else 0 := by
    unfold backE; rw [s.len, s'.len]
  clear s s'
  by_cases h1 : 1024 < N
  · have E : Hid (backE L S q = 3) := Lib.hid (by rw [if_pos h1] at R0; exact R0)
    clear R0
    go_enter Try.func11, Try.ntmps11
    go_wp2_with fail
    go_ret2
    exact backP_err E.out (by decide) (by (repeat' (first | exact Below.refl _ _ | refine below_drewN ?_ _ | refine Below.setCell ?_ (by first | exact Nat.le_refl _ | (simp; done) | (simp; omega)) _ | refine Below.alloc ?_ (by first | exact Nat.le_refl _ | (simp; done) | (simp; omega)) _)))
  · rw [if_neg h1] at R0
    by_cases h2 : M = N - 1
    · rw [if_neg (by simpa using h2)] at R0
      have mx : max ((N : Int) - 1) 0 = (M : Int) := by omega
      have HM := Lib.hid h2
      have R := Lib.hid R0
      clear R0 h2
      go_enter Try.func11, Try.ntmps11
      go_wp2_with fail
      · refine wp_forget (KP w a a' N M c c' L S q) P0.out ?_
        intro w1 h
        have P1 := Lib.hid h
        clear P0 h
        go_loopw [29] (fun i wr => ∃ k : Nat, k ≤ N ∧ i = .int .i64 k ∧ (L.take k).all mayF = true ∧ KP w a a' N M c c' L S q wr) (fun i _ => N - (intOf i).toNat)
        case atStart => exact ⟨0, by omega, rfl, rfl, P1.out⟩
        case round =>
          clear P1
          obtain ⟨k, hk, rfl, hm, hp⟩ := hrel
          have HM1 := Lib.hid hm
          have PR := Lib.hid hp
          clear hm hp
          by_cases hlt : k < N
          · exfalso; omega
          · obtain rfl : k = N := by omega
            have R1 : Hid (backE L S q = if !(okT q && S.all okT) then 6 else 0) := Lib.hid (by
              have := HM1.out
              rw [List.take_of_length_le (by rw [LL.out]; omega)] at this
              rw [R.out, this]; rfl)
            have c1 := PR.out.b2.cell
            have c2 : wr.cell? ⟨w.heap.size + 1 + 1, 0, none⟩ = some (.float .f64 q) := PR.out.b3.cell
            have zz := PR.out.b2.lt
            clear R HM1
            go_wp2_with (refine wpList_append_fs rfl (.tmp 38) (.tmp 39) rfl wr.heap.size _ 1 [.float .f64 q] rfl (World.ownsRow_lit (e := 24) (size := 1) wr #[.float .f64 q] 1 (Nat.le_refl _) (by simp only [maxLen]; omega) rfl) rfl ((PR.out.keep ((Below.refl _ wr).alloc (Nat.le_refl _) _)).s') (by omega) (by simp) ?_; intro a4 p4 w40 ow40 gr40)
            have hB := Lib.hid (grownB (B := wr.heap.size) (w := wr) ((Below.refl _ wr).alloc (Nat.le_refl _) _) gr40 (World.ownsRow_lit (e := 24) (size := 1) wr #[.float .f64 q] 1 (Nat.le_refl _) (by simp only [maxLen]; omega) rfl) (by simp))
            have P4 := Lib.hid (PR.out.keep hB.out)
            have ltX : ∀ z ∈ q :: S, z < 2 ^ 64 := by
              intro z hz
              rcases List.mem_cons.1 hz with rfl | hz
              · exact hq
              · exact PR.out.s0'.lt z hz
            obtain ⟨a4_, p4_, e4, f4⟩ := own_fs (l := q :: S) (n := 1 + M) ow40 ltX
            obtain ⟨rfl, rfl⟩ : a4 = a4_ ∧ p4 = p4_ := by simpa using e4
            clear e4
            have F4 := Lib.hid f4
            have LX : Hid ((q :: S).length = 1 + M) := Lib.hid (by rw [List.length_cons, LS.out]; omega)
            clear ow40 gr40 hB f4 ltX c1 c2 zz
            refine wp_forget (fun w5 => KP w a a' k M c c' L S q w5 ∧ Fs w5 a4 (1 + M) p4 (q :: S)) ⟨P4.out, F4.out⟩ ?_
            rintro w5 ⟨p5, f5⟩
            have P5 := Lib.hid p5
            have F5 := Lib.hid f5
            clear p5 f5 P4 F4 PR
            go_loopw [42] (fun i wr => ∃ j : Nat, j ≤ 1 + M ∧ i = .int .i64 j ∧ ((q :: S).take j).all okT = true ∧ KP w a a' k M c c' L S q wr ∧ Fs wr a4 (1 + M) p4 (q :: S)) (fun i _ => 1 + M - (intOf i).toNat)
            case atStart => exact ⟨0, by omega, rfl, rfl, P5.out, F5.out⟩
            case round =>
              clear P5 F5
              obtain ⟨j, hj, rfl, hm, hp, hf⟩ := hrel
              have HM1 := Lib.hid hm
              have PR := Lib.hid hp
              have FR := Lib.hid hf
              clear hm hp hf
              by_cases hlt : j < 1 + M
              · obtain ⟨b, off, t, rfl, hb0, ht, hc, lt⟩ := FR.out.at hlt
                have HT := Lib.hid ht
                have OK : okT t = (decide (Lk.Fin t) && !(clt t 0)) := rfl
                have BAD : Hid (okT t = false → backE L S q = 6) := Lib.hid fun h => by
                  rw [R1.out, show (okT q && S.all okT) = (q :: S).all okT from (List.all_cons).symm, ok_not ht h]; rfl
                clear ht
                cases hf : decide (Lk.Fin t) with
                | false =>
                  have E := Lib.hid (BAD.out (by rw [OK, hf]; rfl))
                  have HF := Lib.hid hf
                  clear hf OK
                  go_wp2_with fail
                  refine (fine1_walk t t false 0 wr (Is.refl t) lt HF.out).mono ?_; rintro e w6 ⟨rfl, b6⟩
                  have P6 := Lib.hid (PR.out.keep b6)
                  clear b6 hc
                  go_wp2_with fail
                  go_ret2
                  exact backP_err E.out (by decide) P6.out.hb
                | true =>
                  cases hn : clt t 0 with
                  | true =>
                    have E := Lib.hid (BAD.out (by rw [OK, hf, hn]; rfl))
                    have HF := Lib.hid hf
                    have q1 : (FloatKind.f64.format.order t 0 == some Ordering.lt) = true := hn
                    clear hf OK hn
                    go_wp2_with fail
                    refine (fine1_walk t t true 0 wr (Is.refl t) lt HF.out).mono ?_; rintro e w6 ⟨rfl, b6⟩
                    have P6 := Lib.hid (PR.out.keep b6)
                    clear b6 hc
                    go_wp2_with fail
                    go_ret2
                    exact backP_err E.out (by decide) P6.out.hb
                  | false =>
                    have OT := Lib.hid (show okT t = true by rw [OK, hf, hn]; rfl)
                    have HF := Lib.hid hf
                    have q1 : (FloatKind.f64.format.order t 0 == some Ordering.lt) = false := hn
                    clear hf OK hn
                    go_wp2_with fail
                    refine (fine1_walk t t true 0 wr (Is.refl t) lt HF.out).mono ?_; rintro e w6 ⟨rfl, b6⟩
                    have P6 := Lib.hid (PR.out.keep b6)
                    have F6 := Lib.hid (FR.out.keep b6)
                    clear b6 hc
                    go_wp2_with fail
                    go_roundw
                    case rel => exact ⟨j + 1, by omega, by go_num, by rw [ok_snoc HT.out, HM1.out, OT.out]; rfl, P6.out, F6.out⟩
                    case measure => simp [intOf]; omega
              · have E0 : Hid (backE L S q = 0) := Lib.hid (by
                  have := HM1.out
                  rw [List.take_of_length_le (by rw [LX.out]; omega), List.all_cons] at this
                  rw [R1.out, this]; rfl)
                have c1 := PR.out.b1.cell
                clear R1 HM1 FR LX
                go_wp2_with (refine wpList_append_ss rfl (.const (.slice none 0 0)) (.tmp 55) rfl wr.heap.size _ 0 [] rfl (World.ownsRow_nil _ _ _ _) rfl PR.out.s (by omega) (Nat.le_refl _) ?_; intro a6 p6 w6 ow gr; have B6 := Lib.hid (grownB (B := wr.heap.size) (w := wr) (Below.refl _ wr) gr (World.ownsRow_nil wr wr.heap.size 27 5) (Nat.le_refl _)); have P6 := Lib.hid (PR.out.keep B6.out); have OW : Hid (w6.ownsRow wr.heap.size 27 5 (.slice a6 k p6) k (flat L)) := Lib.hid (by simpa using ow); have c3 := P6.out.b1.cell; have y3 := P6.out.b1.lt; clear ow gr c1)
                refine wp_loop_rounds 1 ?_
                rw [rounds_succ]
                obtain rfl : k = 0 := by omega
                go_wp2_with fail
                refine bodyPost_ret (v := ?_) ?_ rfl ?_
                rotate_left
                · simp [results, Try.results11, go_sem]; rfl
                · refine ⟨_, by rw [E0.out], ?_, P6.out.hb.alloc P6.out.hb.size _⟩
                  have eR : backR L S q = L := by
                    have : L = [] := List.eq_nil_of_length_eq_zero (by rw [LL.out])
                    subst this
                    unfold backR; split <;> rfl
                  rw [eR]
                  exact ((rs_of_own OW.out LL.out).mono PR.out.hb.size).keep ((Below.refl _ _).alloc (Nat.le_refl _) _)
      · refine wp_forget (KP w a a' N M c c' L S q) P0.out ?_
        intro w1 h
        have P1 := Lib.hid h
        clear P0 h
        go_loopw [29] (fun i wr => ∃ k : Nat, k ≤ N ∧ i = .int .i64 k ∧ (L.take k).all mayF = true ∧ KP w a a' N M c c' L S q wr) (fun i _ => N - (intOf i).toNat)
        case atStart => exact ⟨0, by omega, rfl, rfl, P1.out⟩
        case round =>
          clear P1
          obtain ⟨k, hk, rfl, hm, hp⟩ := hrel
          have HM1 := Lib.hid hm
          have PR := Lib.hid hp
          clear hm hp
          by_cases hlt : k < N
          · obtain ⟨b, off, s, rfl, hb0, hs, hc, ls⟩ := PR.out.s.at hlt
            obtain ⟨a0, a1, a2, a3, a4⟩ := hc
            have HS := Lib.hid hs
            have LTS := Lib.hid ls
            clear hs ls
            cases hms : mayF s with
            | true =>
              have MS := Lib.hid hms
              clear hms
              go_wp2_with fail
              refine (may_b s true MS.out LTS.out _).mono ?_; rintro e w2 ⟨rfl, b2⟩
              have P2 := Lib.hid (PR.out.keep (Below.trans ((Below.refl _ wr).alloc (Nat.le_refl _) _) (b2.mono (by simp))))
              clear b2 a0 a1 a2 a3 a4
              go_wp2_with fail
              go_roundw
              case rel => exact ⟨k + 1, by omega, by go_num, by rw [all_snoc HS.out, HM1.out, MS.out]; rfl, P2.out⟩
              case measure => simp [intOf]; omega
            | false =>
              have E : Hid (backE L S q = 6) := Lib.hid (by rw [R.out, all_not HS.out hms]; rfl)
              have MS := Lib.hid hms
              clear hms
              go_wp2_with fail
              refine (may_b s false MS.out LTS.out _).mono ?_; rintro e w2 ⟨rfl, b2⟩
              have P2 := Lib.hid (PR.out.keep (Below.trans ((Below.refl _ wr).alloc (Nat.le_refl _) _) (b2.mono (by simp))))
              clear b2 a0 a1 a2 a3 a4
              go_wp2_with fail
              go_ret2
              exact backP_err E.out (by decide) P2.out.hb
          · obtain rfl : k = N := by omega
            have R1 : Hid (backE L S q = if !(okT q && S.all okT) then 6 else 0) := Lib.hid (by
              have := HM1.out
              rw [List.take_of_length_le (by rw [LL.out]; omega)] at this
              rw [R.out, this]; rfl)
            have c1 := PR.out.b2.cell
            have c2 : wr.cell? ⟨w.heap.size + 1 + 1, 0, none⟩ = some (.float .f64 q) := PR.out.b3.cell
            have zz := PR.out.b2.lt
            clear R HM1
            go_wp2_with (refine wpList_append_fs rfl (.tmp 38) (.tmp 39) rfl wr.heap.size _ 1 [.float .f64 q] rfl (World.ownsRow_lit (e := 24) (size := 1) wr #[.float .f64 q] 1 (Nat.le_refl _) (by simp only [maxLen]; omega) rfl) rfl ((PR.out.keep ((Below.refl _ wr).alloc (Nat.le_refl _) _)).s') (by omega) (by simp) ?_; intro a4 p4 w40 ow40 gr40)
            have hB := Lib.hid (grownB (B := wr.heap.size) (w := wr) ((Below.refl _ wr).alloc (Nat.le_refl _) _) gr40 (World.ownsRow_lit (e := 24) (size := 1) wr #[.float .f64 q] 1 (Nat.le_refl _) (by simp only [maxLen]; omega) rfl) (by simp))
            have P4 := Lib.hid (PR.out.keep hB.out)
            have ltX : ∀ z ∈ q :: S, z < 2 ^ 64 := by
              intro z hz
              rcases List.mem_cons.1 hz with rfl | hz
              · exact hq
              · exact PR.out.s0'.lt z hz
            obtain ⟨a4_, p4_, e4, f4⟩ := own_fs (l := q :: S) (n := 1 + M) ow40 ltX
            obtain ⟨rfl, rfl⟩ : a4 = a4_ ∧ p4 = p4_ := by simpa using e4
            clear e4
            have F4 := Lib.hid f4
            have LX : Hid ((q :: S).length = 1 + M) := Lib.hid (by rw [List.length_cons, LS.out]; omega)
            clear ow40 gr40 hB f4 ltX c1 c2 zz
            refine wp_forget (fun w5 => KP w a a' k M c c' L S q w5 ∧ Fs w5 a4 (1 + M) p4 (q :: S)) ⟨P4.out, F4.out⟩ ?_
            rintro w5 ⟨p5, f5⟩
            have P5 := Lib.hid p5
            have F5 := Lib.hid f5
            clear p5 f5 P4 F4 PR
            go_loopw [42] (fun i wr => ∃ j : Nat, j ≤ 1 + M ∧ i = .int .i64 j ∧ ((q :: S).take j).all okT = true ∧ KP w a a' k M c c' L S q wr ∧ Fs wr a4 (1 + M) p4 (q :: S)) (fun i _ => 1 + M - (intOf i).toNat)
            case atStart => exact ⟨0, by omega, rfl, rfl, P5.out, F5.out⟩
            case round =>
              clear P5 F5
              obtain ⟨j, hj, rfl, hm, hp, hf⟩ := hrel
              have HM1 := Lib.hid hm
              have PR := Lib.hid hp
              have FR := Lib.hid hf
              clear hm hp hf
              by_cases hlt : j < 1 + M
              · obtain ⟨b, off, t, rfl, hb0, ht, hc, lt⟩ := FR.out.at hlt
                have HT := Lib.hid ht
                have OK : okT t = (decide (Lk.Fin t) && !(clt t 0)) := rfl
                have BAD : Hid (okT t = false → backE L S q = 6) := Lib.hid fun h => by
                  rw [R1.out, show (okT q && S.all okT) = (q :: S).all okT from (List.all_cons).symm, ok_not ht h]; rfl
                clear ht
                cases hf : decide (Lk.Fin t) with
                | false =>
                  have E := Lib.hid (BAD.out (by rw [OK, hf]; rfl))
                  have HF := Lib.hid hf
                  clear hf OK
                  go_wp2_with fail
                  refine (fine1_walk t t false 0 wr (Is.refl t) lt HF.out).mono ?_; rintro e w6 ⟨rfl, b6⟩
                  have P6 := Lib.hid (PR.out.keep b6)
                  clear b6 hc
                  go_wp2_with fail
                  go_ret2
                  exact backP_err E.out (by decide) P6.out.hb
                | true =>
                  cases hn : clt t 0 with
                  | true =>
                    have E := Lib.hid (BAD.out (by rw [OK, hf, hn]; rfl))
                    have HF := Lib.hid hf
                    have q1 : (FloatKind.f64.format.order t 0 == some Ordering.lt) = true := hn
                    clear hf OK hn
                    go_wp2_with fail
                    refine (fine1_walk t t true 0 wr (Is.refl t) lt HF.out).mono ?_; rintro e w6 ⟨rfl, b6⟩
                    have P6 := Lib.hid (PR.out.keep b6)
                    clear b6 hc
                    go_wp2_with fail
                    go_ret2
                    exact backP_err E.out (by decide) P6.out.hb
                  | false =>
                    have OT := Lib.hid (show okT t = true by rw [OK, hf, hn]; rfl)
                    have HF := Lib.hid hf
                    have q1 : (FloatKind.f64.format.order t 0 == some Ordering.lt) = false := hn
                    clear hf OK hn
                    go_wp2_with fail
                    refine (fine1_walk t t true 0 wr (Is.refl t) lt HF.out).mono ?_; rintro e w6 ⟨rfl, b6⟩
                    have P6 := Lib.hid (PR.out.keep b6)
                    have F6 := Lib.hid (FR.out.keep b6)
                    clear b6 hc
                    go_wp2_with fail
                    go_roundw
                    case rel => exact ⟨j + 1, by omega, by go_num, by rw [ok_snoc HT.out, HM1.out, OT.out]; rfl, P6.out, F6.out⟩
                    case measure => simp [intOf]; omega
              · have E0 : Hid (backE L S q = 0) := Lib.hid (by
                  have := HM1.out
                  rw [List.take_of_length_le (by rw [LX.out]; omega), List.all_cons] at this
                  rw [R1.out, this]; rfl)
                have c1 := PR.out.b1.cell
                clear R1 HM1 FR LX
                go_wp2_with (refine wpList_append_ss rfl (.const (.slice none 0 0)) (.tmp 55) rfl wr.heap.size _ 0 [] rfl (World.ownsRow_nil _ _ _ _) rfl PR.out.s (by omega) (Nat.le_refl _) ?_; intro a6 p6 w6 ow gr; have B6 := Lib.hid (grownB (B := wr.heap.size) (w := wr) (Below.refl _ wr) gr (World.ownsRow_nil wr wr.heap.size 27 5) (Nat.le_refl _)); have P6 := Lib.hid (PR.out.keep B6.out); have OW : Hid (w6.ownsRow wr.heap.size 27 5 (.slice a6 k p6) k (flat L)) := Lib.hid (by simpa using ow); have c3 := P6.out.b1.cell; have y3 := P6.out.b1.lt; clear ow gr c1)
                have k1 : 1 ≤ k := by omega
                obtain ⟨g, rfl, hg1, hg2, hg3, hg4⟩ := own_some OW.out k1
                have hb3 := P6.out.b3.lt
                have hb4 := PR.out.b3.lt
                have BK0 : BK w a a' k M c c' p6 L S q w6.heap.size g (outK L S q 0) (w6.alloc (.cells #[.slice (some ⟨g, 0, none⟩) k p6] 22)) := by
                  rw [outK_zero]
                  exact ⟨P6.out.b1.old _, P6.out.b2.old _, P6.out.b3.old _, Bx.new _ _ _, (outS_of OW.out LL.out).keep ((Below.refl _ _).alloc (Nat.le_refl _) _), P6.out.s0, P6.out.s0', P6.out.hb.alloc P6.out.hb.size _, by omega, by omega, by omega, LL.out, hg3, by omega⟩
                have HBK := Lib.hid BK0
                clear BK0 hg1 hg2 hb3 hb4 c3 y3 OW P6 B6 PR
                refine wp_forget (BK w a a' k M c c' p6 L S q w6.heap.size g (outK L S q 0)) HBK.out ?_
                intro w7 h7
                have H7 := Lib.hid h7
                clear HBK h7
                go_loopw [14] (fun i wr => ∃ (j : Nat) (x : Int), j + 1 ≤ k ∧ x = (k : Int) - 2 - j ∧ i = .int .i64 x ∧ BK w a a' k M c c' p6 L S q w6.heap.size g (outK L S q j) wr) (fun i _ => (intOf i + 1).toNat)
                case atStart => exact ⟨0, _, by omega, by omega, rfl, H7.out⟩
                case round =>
                  clear H7
                  obtain ⟨j, x, hj, hx, rfl, hbk⟩ := hrel
                  have HB := Lib.hid hbk
                  clear hbk
                  by_cases hlt : 0 ≤ x
                  · obtain ⟨i, rfl⟩ := Int.eq_ofNat_of_zero_le hlt
                    have hi : i + j + 2 = k := by omega
                    have hi' : i + j + 2 = L.length := by rw [LL.out]; exact hi
                    obtain ⟨s, hs⟩ : ∃ s, L[i]? = some s := ⟨_, List.getElem?_eq_getElem (by omega)⟩
                    obtain ⟨d, hd⟩ : ∃ d, S[i]? = some d := ⟨_, List.getElem?_eq_getElem (by rw [LS.out, HM.out]; omega)⟩
                    have hn : (outK L S q j)[i + 1]? = some (bkF L S q j) := by
                      rw [outK_get (by omega), if_pos (by omega), show L.length - 1 - (i + 1) = j by omega]
                    have hO : (outK L S q j)[i]? = some s := by
                      rw [outK_get (by omega), if_neg (by omega), getS hs]
                    have ST := Lib.hid (outK_step (q := q) hi' hs hd)
                    have BW := back1_walk w a a' k M c c' p6 L S q w6.heap.size g (outK L S q j) wr HB.out i s (bkF L S q j) d hs hn hd hO
                    rw [ST.out] at BW
                    have BW2 := Lib.hid BW
                    have HX := Lib.hid hx
                    have g1 : (i : Int) + 1 < k := by omega
                    clear BW hs hd hn hO hi' hi hx
                    go_wp2_with fail
                    refine BW2.out.mono ?_; rintro e w8 ⟨rfl, h8⟩
                    have H8 := Lib.hid h8
                    clear h8 BW2
                    go_wp2_with fail
                    go_roundw
                    case rel => exact ⟨j + 1, _, by have := HX.out; omega, by have := HX.out; omega, rfl, H8.out⟩
                    case measure => simp [intOf] <;> omega
                  · have ej : j = L.length - 1 := by rw [LL.out]; omega
                    have EO : Hid (outK L S q j = backR L S q) := Lib.hid (by unfold backR; rw [E0.out, if_pos rfl, ej, outK_end])
                    have c4 := HB.out.bx.cell
                    clear ej hx
                    go_wp2_with fail
                    refine bodyPost_ret (v := ?_) ?_ rfl ?_
                    rotate_left
                    · simp [results, Try.results11, go_sem]; rfl
                    · have hlen := HB.out.len
                      rw [EO.out] at hlen
                      exact ⟨_, by rw [E0.out], .inr ⟨g, p6, by rw [hlen], (by have := HB.out.hg; omega), by rw [hlen]; exact hg3, hg4, by rw [← EO.out]; exact HB.out.out⟩, HB.out.hb⟩
    · have E : Hid (backE L S q = 5) := Lib.hid (by rw [if_pos h2] at R0; exact R0)
      have h3 : ¬ (M : Int) = max ((N : Int) - 1) 0 := by omega
      clear R0
      go_enter Try.func11, Try.ntmps11
      go_wp2_with fail
      all_goals
        go_ret2
        exact backP_err E.out (by decide) (by (repeat' (first | exact Below.refl _ _ | refine below_drewN ?_ _ | refine Below.setCell ?_ (by first | exact Nat.le_refl _ | (simp; done) | (simp; omega)) _ | refine Below.alloc ?_ (by first | exact Nat.le_refl _ | (simp; done) | (simp; omega)) _)))
end Go.Proofs.Ytoobpiednigcgaa
