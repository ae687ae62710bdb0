import Derived.Test.YtoobpiednigcgaaSmG
import Derived.Test.YtoobpiednigcgaaFlP
import Derived.Test.YtoobpiednigcgaaStB
import Derived.Test.YtoobpiednigcgaaStC
set_option autoImplicit false
set_option linter.unusedVariables false
namespace Go.Proofs.Ytoobpiednigcgaa
open Go.RowKit Lk
/-- five places of a block, a state -/
structure Out5 (cur : Array Value) (o : Nat) (s : St) : Prop where
  c0 : cur[o]? = some (.float .f64 s.x)
  c1 : cur[o + 1]? = some (.float .f64 s.v)
  c2 : cur[o + 2]? = some (.float .f64 s.pxx)
  c3 : cur[o + 3]? = some (.float .f64 s.pxv)
  c4 : cur[o + 4]? = some (.float .f64 s.pvv)
def fl5 (s : St) : List Value := [.float .f64 s.x, .float .f64 s.v, .float .f64 s.pxx, .float .f64 s.pxv, .float .f64 s.pvv]
/-- a row of states of the call's own -/
def OutS (w : World) (g : Nat) (O : List St) : Prop := ∃ cur : Array Value, w.heap[g]? = some (.cells cur 27 (0, 0)) ∧ ∀ j s, O[j]? = some s → Out5 cur (j * 5) s
theorem Out5.put {cur : Array Value} {o k : Nat} {s t : St} (h : Out5 cur o s) (hk : o + 5 ≤ k ∨ k + 5 ≤ o) (hs : k + 5 ≤ cur.size) : Out5 (putAll cur k (fl5 t)) o s := by
  have e : ∀ j, (putAll cur k (fl5 t))[j]? = if k ≤ j ∧ j < k + 5 then (fl5 t)[j - k]? else cur[j]? := fun j => putAll_get (fl5 t) cur k j hs
  exact ⟨by rw [e, if_neg (by omega)]; exact h.c0, by rw [e, if_neg (by omega)]; exact h.c1, by rw [e, if_neg (by omega)]; exact h.c2, by rw [e, if_neg (by omega)]; exact h.c3, by rw [e, if_neg (by omega)]; exact h.c4⟩
theorem Out5.here {cur : Array Value} {k : Nat} {t : St} (hs : k + 5 ≤ cur.size) : Out5 (putAll cur k (fl5 t)) k t := by
  have e : ∀ j, (putAll cur k (fl5 t))[j]? = if k ≤ j ∧ j < k + 5 then (fl5 t)[j - k]? else cur[j]? := fun j => putAll_get (fl5 t) cur k j hs
  exact ⟨by rw [e, if_pos (by omega), Nat.sub_self]; rfl, by rw [e, if_pos (by omega), show k + 1 - k = 1 by omega]; rfl, by rw [e, if_pos (by omega), show k + 2 - k = 2 by omega]; rfl, by rw [e, if_pos (by omega), show k + 3 - k = 3 by omega]; rfl, by rw [e, if_pos (by omega), show k + 4 - k = 4 by omega]; rfl⟩
theorem OutS.lt {w : World} {g : Nat} {O : List St} (h : OutS w g O) : g < w.heap.size := by obtain ⟨cur, h1, _⟩ := h; exact (Array.getElem?_eq_some_iff.1 h1).1
theorem OutS.block {w w' : World} {g : Nat} {O : List St} (h : OutS w g O) (e : w'.heap[g]? = w.heap[g]?) : OutS w' g O := by obtain ⟨cur, h1, h2⟩ := h; exact ⟨cur, e.trans h1, h2⟩
theorem OutS.keep {w w' : World} {g : Nat} {O : List St} (h : OutS w g O) (b : Below w.heap.size w w') : OutS w' g O := h.block (b.block _ h.lt)
theorem OutS.at {w : World} {g j : Nat} {O : List St} {s : St} (h : OutS w g O) (hj : O[j]? = some s) : At5 w g (j * 5) s := by
  obtain ⟨cur, h1, h2⟩ := h
  have h3 := h2 j s hj
  exact ⟨(cell_of_heap h1 _).trans h3.c0, (cell_of_heap h1 _).trans h3.c1, (cell_of_heap h1 _).trans h3.c2, (cell_of_heap h1 _).trans h3.c3, (cell_of_heap h1 _).trans h3.c4⟩
/-- what Back's closure knows -/
structure BK (W0 : World) (a a' : Option Addr) (n m c c' co : Nat) (L : List St) (S : List Nat) (q bo g : Nat) (O : List St) (w : World) : Prop where
  bl : Bx w W0.heap.size (.slice a n c)
  bs : Bx w (W0.heap.size + 1) (.slice a' m c')
  bw : Bx w (W0.heap.size + 2) (.float .f64 q)
  bx : Bx w bo (.slice (some ⟨g, 0, none⟩) n co)
  out : OutS w g O
  s0 : Ss W0 a n c L
  s0' : Fs W0 a' m c' S
  hb : Below W0.heap.size W0 w
  hg : W0.heap.size + 2 < g
  hbo : W0.heap.size + 2 < bo
  hn : g ≠ bo
  len : O.length = n
  hco : n ≤ co
  big : n ≤ 1024
theorem BK.keep {W0 : World} {a a' : Option Addr} {n m c c' co : Nat} {L : List St} {S : List Nat} {q bo g : Nat} {O : List St} {w w' : World} (h : BK W0 a a' n m c c' co L S q bo g O w) (b : Below w.heap.size w w') : BK W0 a a' n m c c' co L S q bo g O w' :=
  ⟨h.bl.keep b, h.bs.keep b, h.bw.keep b, h.bx.keep b, h.out.keep b, h.s0, h.s0', h.hb.trans (b.mono h.hb.size), h.hg, h.hbo, h.hn, h.len, h.hco, h.big⟩
theorem BK.s {W0 : World} {a a' : Option Addr} {n m c c' co : Nat} {L : List St} {S : List Nat} {q bo g : Nat} {O : List St} {w : World} (h : BK W0 a a' n m c c' co L S q bo g O w) : Ss w a n c L := h.s0.keep h.hb
theorem BK.s' {W0 : World} {a a' : Option Addr} {n m c c' co : Nat} {L : List St} {S : List Nat} {q bo g : Nat} {O : List St} {w : World} (h : BK W0 a a' n m c c' co L S q bo g O w) : Fs w a' m c' S := h.s0'.keep h.hb
theorem BK.set {W0 : World} {a a' : Option Addr} {n m c c' co : Nat} {L : List St} {S : List Nat} {q bo g : Nat} {O : List St} {w w' : World} (h : BK W0 a a' n m c c' co L S q bo g O w) {i : Nat} {s t : St} (hi : O[i]? = some s) {cur : Array Value} (hc : w.heap[g]? = some (.cells cur 27 (0, 0)))
    (h5 : ∀ j s, O[j]? = some s → Out5 cur (j * 5) s) (hw : w'.heap[g]? = some (.cells (putAll cur (i * 5) (fl5 t)) 27 (0, 0))) (o : Only g w w') : BK W0 a a' n m c c' co L S q bo g (O.set i t) w' := by
  have hg := h.hg
  have hbo := h.hbo
  have hn := h.hn
  have sz : i * 5 + 5 ≤ cur.size := by have := (Array.getElem?_eq_some_iff.1 (h5 i s hi).c4).1; omega
  have bx : ∀ {k v}, k ≠ g → Bx w k v → Bx w' k v := fun hk hx => ⟨(o.cell hk).trans hx.cell, by rw [o.size]; exact hx.lt⟩
  refine ⟨bx (by omega) h.bl, bx (by omega) h.bs, bx (by omega) h.bw, bx (fun e => hn e.symm) h.bx, ⟨_, hw, fun j u hu => ?_⟩, h.s0, h.s0', h.hb.trans (o.below (by omega)), hg, hbo, hn, by rw [List.length_set]; exact h.len, h.hco, h.big⟩
  rw [List.getElem?_set] at hu
  by_cases hj : i = j
  · subst hj
    have hlt := (List.getElem?_eq_some_iff.1 hi).1
    rw [if_pos rfl, if_pos hlt] at hu
    cases hu
    exact Out5.here sz
  · rw [if_neg hj] at hu
    exact (h5 j u hu).put (by omega) sz
theorem BK.same {W0 : World} {a a' : Option Addr} {n m c c' co : Nat} {L : List St} {S : List Nat} {q bo g : Nat} {O : List St} {w : World} (h : BK W0 a a' n m c c' co L S q bo g O w) {i : Nat} {s t : St} (hi : O[i]? = some s) (e : t = s) : BK W0 a a' n m c c' co L S q bo g (O.set i t) w := by
  subst e
  have : O.set i t = O := by
    apply List.ext_getElem?
    intro j
    rw [List.getElem?_set]
    by_cases hj : i = j
    · subst hj; rw [if_pos rfl, if_pos (List.getElem?_eq_some_iff.1 hi).1, hi]
    · rw [if_neg hj]
  rw [this]; exact h
def TAh (s : St) (t q : Nat) (f : FuncId) (args : Array Value) (u : Value) (w : World) : Prop := f = 27 → ∃ p : St, u = sv5 p ∧ IsS p (aheadF s t q) ∧ St.Lt p
theorem tah {s : St} (t q : Nat) (hl : St.Lt s) (w : World) : Calls Try.prog 27 #[sv5 s, .float .f64 t, .float .f64 q] w (fun e w'' => ∃ u, e = .returned u ∧ TAh s t q 27 #[sv5 s, .float .f64 t, .float .f64 q] u w'' ∧ Ext w w'') :=
  (ahead_walk s.x s.v s.pxx s.pxv s.pvv t q w hl).mono fun e w' ⟨a, b, c, d, f, he, ⟨h1, h2⟩, hb⟩ => ⟨_, he, fun _ => ⟨⟨a, b, c, d, f⟩, rfl, h1, h2⟩, hb⟩
theorem fine1_walk (p P : Nat) (b : Bool) (k : Nat) (w : World) (hp : Is p P) (lp : p < 2 ^ 64) (hb : decide (Lk.Fin P) = b) :
    Calls Try.prog 29 #[.slice (some ⟨w.heap.size, 0, none⟩) 1 1] ((w.alloc (.cells #[.float .f64 p] 24)).drewN k) (fun e w' => e = .returned (.bool b) ∧ Below w.heap.size w w') := by
  have F : Fs ((w.alloc (.cells #[.float .f64 p] 24)).drewN k) (some ⟨w.heap.size, 0, none⟩) 1 1 [p] := ⟨rfl, by omega, by omega, (fun x hx => by rcases List.mem_cons.1 hx with rfl | hx; exact lp; cases hx), .inr ⟨_, 0, rfl, by simp [World.drewN], fun j hj => by
    show (w.alloc (.cells #[.float .f64 p] 24)).cell? ⟨w.heap.size, 0 + j, none⟩ = _
    rw [cell_of_heap (Deep.blk_alloc_new _ _) (0 + j)]
    match j, hj with
    | 0, _ => rfl⟩, fun h => by cases h⟩
  refine (fine_walk _ _ _ _ _ F).mono ?_
  rintro e w' ⟨rfl, h⟩
  refine ⟨ret_bool ?_, (below_drewN ((Below.refl _ w).alloc (Nat.le_refl _) _) _).trans (h.mono (by simp [World.drewN]))⟩
  rw [← hb]
  simp [finL, is_fin hp]
set_option maxRecDepth 100000 in
set_option maxHeartbeats 8000000 in
theorem back1_walk (W0 : World) (a a' : Option Addr) (n m c c' co : Nat) (L : List St) (S : List Nat) (q bo g : Nat) (O : List St) (w : World) (h : BK W0 a a' n m c c' co L S q bo g O w) (i : Nat) (s nx : St) (dt : Nat)
    (hs : L[i]? = some s) (hn : O[i + 1]? = some nx) (hd : S[i]? = some dt) (hO : O[i]? = some s) :
    Calls Try.prog 30 #[.int .i64 i, .pointer (some ⟨W0.heap.size, 0, none⟩), .pointer (some ⟨bo, 0, none⟩), .pointer (some ⟨W0.heap.size + 1, 0, none⟩), .pointer (some ⟨W0.heap.size + 2, 0, none⟩)] w
      (fun e w' => e = .returned (.tuple #[]) ∧ BK W0 a a' n m c c' co L S q bo g (O.set i (stepF s dt q nx)) w') := by
  have HB := Lib.hid h
  have k1 : i + 1 < n := by have := (List.getElem?_eq_some_iff.1 hn).1; have := h.len; omega
  have big := h.big
  have nle := h.s0.le
  have hco := h.hco
  have csm := h.s0.small
  obtain ⟨b, off, s', rfl, hb0, hs', hc, lts⟩ := h.s.at (show i < n by omega)
  obtain rfl : s = s' := by rw [hs] at hs'; exact Option.some.inj hs'
  obtain ⟨a0, a1, a2, a3, a4⟩ := hc
  obtain ⟨o0, o1, o2, o3, o4⟩ := h.out.at hn
  have y1 := h.bl.lt
  have y2 := h.bx.lt
  have y3 := h.out.lt
  have c1 := h.bl.cell
  have c2 := h.bx.cell
  have z1 : (i : Int) < n := by omega
  have z2 : (i : Int) + 1 < n := by omega
  have s1 : IntKind.i64.wrap ((i : Int) + 1) = (i : Int) + 1 := IntWalk.i64_in _ (by omega)
  have s2 : 0 ≤ (i : Int) + 1 := by omega
  have s3 : ((i : Int) + 1).toNat = i + 1 := by omega
  have HS := Lib.hid hs
  have HN := Lib.hid hn
  have HD := Lib.hid hd
  have LTS := Lib.hid lts
  clear h hs hs' hn hd lts
  go_enter Try.func30, Try.ntmps30
  go_upto_region 0 with fail
  go_cut [6, 7] (fun s6 s7 wx => ∃ g6 g7 : Nat, s6 = .pointer (some ⟨g6, 0, none⟩) ∧ s7 = .pointer (some ⟨g7, 0, none⟩) ∧ BK W0 (some ⟨b, off, none⟩) a' n m c c' co L S q bo g O wx ∧ Bs wx g6 s ∧ Bs wx g7 nx)
  case first =>
    go_region
    all_goals
      go_wp2_with fail
      go_meet
      first
        | exact ⟨w.heap.size, w.heap.size + 1, rfl, rfl, HB.out.keep (by (repeat' (first | exact Below.refl _ _ | refine below_drewN ?_ _ | refine Below.setCell ?_ (by first | exact Nat.le_refl _ | (simp; done) | (simp; omega)) _ | refine Below.alloc ?_ (by first | exact Nat.le_refl _ | (simp; done) | (simp; omega)) _))), (Bs.new' w s rfl).old _, Bs.new' _ nx (by simp only [szA])⟩
        | exact ⟨w.heap.size + 1, w.heap.size, rfl, rfl, HB.out.keep (by (repeat' (first | exact Below.refl _ _ | refine below_drewN ?_ _ | refine Below.setCell ?_ (by first | exact Nat.le_refl _ | (simp; done) | (simp; omega)) _ | refine Below.alloc ?_ (by first | exact Nat.le_refl _ | (simp; done) | (simp; omega)) _))), Bs.new' _ s (by simp only [szA]), (Bs.new' w nx rfl).old _⟩
  case rest =>
    obtain ⟨w1, rfl⟩ : ∃ x, x = wc := ⟨_, rfl⟩
    obtain ⟨g6, g7, rfl, rfl, h1, b6, b7⟩ := hcut
    have HB1 := Lib.hid h1
    have B6 := Lib.hid b6
    have B7 := Lib.hid b7
    have csm' := h1.s0'.small
    have cle' := h1.s0'.le
    have hm : i < m := by have := (List.getElem?_eq_some_iff.1 HD.out).1; have := h1.s0'.len; omega
    obtain ⟨b', off', dt', rfl, hb0', hd', cd, ldt⟩ := h1.s'.at hm
    obtain rfl : dt = dt' := by rw [HD.out] at hd'; exact Option.some.inj hd'
    obtain ⟨f0, f1, f2, f3, f4⟩ := b6.cells
    have c3 := h1.bs.cell
    have c4 := h1.bw.cell
    have y4 := h1.bw.lt
    have y5 := h1.bs.lt
    have y6 := b6.lt
    have z3 : (i : Int) < m := by omega
    clear h1 b6 b7 hd' HB a0 a1 a2 a3 a4 o0 o1 o2 o3 o4 c1 c2 y1 y2 y3 hb0
    go_wp2_with fail
    refine wp_region_G_tail 8 (TAh s dt q) (by kernel_rfl) (by kernel_rfl) ?_
    simp only [List.take, List.drop]
    repeat' (refine wpG_step' (fun K hA hK => ?_); go_simp; first | (refine bothG_value hA (v := ?_) (fun w' hw' => ?_) ?_; rotate_left; (· go_simp; rfl); (refine hK _ _ ?_; clear hK hA K)) | (refine bothG_call (f := 27) (args := ?_) (fun w' => ?_) (fun w' _ => ?_) ?_; rotate_left; (· go_simp; rfl); (· exact tah dt q LTS.out w'); (intro u y hu; obtain ⟨p, rfl, hp, lp⟩ := hu rfl; clear hu; refine hK _ _ ?_; clear hK hA K)) | (refine bothG_alloc (ob := ?_) (fun w' => ?_) ?_; rotate_left; (· go_simp; rfl); (intro g8 xg hn1 hn2 hn3; refine hK _ _ ?_; clear hK hA K)))
    refine wpG_nil ?_
    intro w2 hb hF
    have bn := (hF.2.block g8 hn2).trans hn3
    have E2 := Lib.hid (And.intro hb hn1)
    have IP := Lib.hid hp
    clear hF hn2 hn3 hb hn1 hp f0 f1 f2 f3 f4 c3 c4 cd y4 y5 y6 hb0'
    refine wpList_store_at rfl rfl (g := g8) (j := 0) rfl rfl bn (by kernel_rfl) (Nat.le_of_ble_eq_true rfl) (one_fl5 _ _ _ _ _) ?_
    (intro w3 b8 ob8; have BB := Below.trans E2.out.1 (ob8.below E2.out.2); have HB3 := Lib.hid (HB1.out.keep BB); have B63 := Lib.hid (B6.out.keep BB); have B73 := Lib.hid (B7.out.keep BB); have B83 : Hid (Bs w3 g8 p) := Lib.hid b8; obtain ⟨p0, p1, p2, p3, p4⟩ := B83.out.cells; clear b8 ob8 bn BB E2 HB1 B6 B7)
    go_wp2_with fail
    refine (cross_walk _ _ _ _ (aheadF s dt q).pxx (aheadF s dt q).pvv (aheadF s dt q).pxv (aheadF s dt q).pxv _ IP.out.pxx IP.out.pvv IP.out.pxv IP.out.pxv).mono ?_
    rintro e w4 ⟨d, rfl, ⟨hd, ld⟩, b4⟩
    have HD4 := Lib.hid (show Is d (detF (aheadF s dt q)) from hd)
    have HB4 := Lib.hid (HB3.out.keep b4)
    have B64 := Lib.hid (B63.out.keep b4)
    have B74 := Lib.hid (B73.out.keep b4)
    have B84 := Lib.hid (B83.out.keep b4)
    clear hd b4 p0 p1 p2 p3 p4 HB3 B63 B73 B83
    have SF : Hid (stepF s dt q nx = if cgt (detF (aheadF s dt q)) 0 && decide (Lk.Fin (detF (aheadF s dt q))) then
      if finS (gainF s (aheadF s dt q) nx dt (detF (aheadF s dt q))) then gainF s (aheadF s dt q) nx dt (detF (aheadF s dt q)) else s else s) := Lib.hid rfl
    cases h5 : cgt (detF (aheadF s dt q)) 0 with
    | false =>
      have q1 : (FloatKind.f64.format.order d 0 == some Ordering.gt) = false := (cgt_is HD4.out (Is.refl 0)).trans h5
      have E : Hid (stepF s dt q nx = s) := Lib.hid (by rw [SF.out, h5]; rfl)
      clear h5
      go_wp2_with fail
      go_end0
      exact ⟨rfl, HB4.out.same hO E.out⟩
    | true =>
      have q1 : (FloatKind.f64.format.order d 0 == some Ordering.gt) = true := (cgt_is HD4.out (Is.refl 0)).trans h5
      cases h6 : decide (Lk.Fin (detF (aheadF s dt q))) with
      | false =>
        have E : Hid (stepF s dt q nx = s) := Lib.hid (by rw [SF.out, h5, h6]; rfl)
        have H6 := Lib.hid h6
        clear h5 h6
        go_wp2_with fail
        refine (fine1_walk d _ false 0 w4 HD4.out ld H6.out).mono ?_
        rintro e w5 ⟨rfl, b5⟩
        clear q1
        go_wp2_with fail
        go_end0
        exact ⟨rfl, (HB4.out.keep b5).same hO E.out⟩
      | true =>
        have E : Hid (stepF s dt q nx = if finS (gainF s (aheadF s dt q) nx dt (detF (aheadF s dt q))) then gainF s (aheadF s dt q) nx dt (detF (aheadF s dt q)) else s) := Lib.hid (by rw [SF.out, h5, h6]; rfl)
        have H6 := Lib.hid h6
        clear h5 h6 SF
        go_wp2_with fail
        refine (fine1_walk d _ true 0 w4 HD4.out ld H6.out).mono ?_
        rintro e w5 ⟨rfl, b5⟩
        have HB5 := Lib.hid (HB4.out.keep b5)
        have B65 := Lib.hid (B64.out.keep b5)
        have B75 := Lib.hid (B74.out.keep b5)
        have B85 := Lib.hid (B84.out.keep b5)
        clear b5 q1 HB4 B64 B74 B84
        obtain ⟨f0, f1, f2, f3, f4⟩ := B65.out.cells
        obtain ⟨n0, n1, n2, n3, n4⟩ := B75.out.cells
        obtain ⟨p0, p1, p2, p3, p4⟩ := B85.out.cells
        have y6 := B65.out.lt
        have y7 := B75.out.lt
        have y8 := B85.out.lt
        have cd := (HB5.out.s'.at (show i < m by omega))
        obtain ⟨b_, off_, dt_, e_, hb_, hd_, cd, _⟩ := cd
        obtain ⟨rfl, rfl⟩ : b' = b_ ∧ off' = off_ := by simpa using e_
        obtain rfl : dt = dt_ := by rw [HD.out] at hd_; exact Option.some.inj hd_
        have c3 := HB5.out.bs.cell
        have y5 := HB5.out.bs.lt
        clear e_ hd_
        go_upto_region 4 with fail
        go_cut [10, 11] (fun s10 s11 wx => ∃ (g10 : Nat) (o : St), s10 = .pointer (some ⟨g10, 0, none⟩) ∧ s11 = .bool (finS (gainF s (aheadF s dt q) nx dt (detF (aheadF s dt q)))) ∧ BK W0 (some ⟨b, off, none⟩) (some ⟨b', off', none⟩) n m c c' co L S q bo g O wx ∧ Bs wx g10 o ∧ IsS o (gainF s (aheadF s dt q) nx dt (detF (aheadF s dt q))))
        case first =>
          refine wp_region_J 15 (fun x => Below w5.heap.size w5 x) (by kernel_rfl) rfl (by kernel_rfl) ((Below.refl _ w5).drew) (fun wj hJ hs => ?_)
          have HJ := Lib.hid hJ
          clear hJ
          (refine j_take 0 _ ?_ hs rfl rfl (by kernel_rfl) (by kernel_rfl) HJ.out (fun w' hw' => ?_) ?_; rotate_left; (· (have hc := fun b o h => Below.cell hw' (p := ⟨b, o, none⟩) h); go_simp; rfl); (go_simp))
          (refine j_take 1 _ ?_ hs rfl rfl (by kernel_rfl) (by kernel_rfl) HJ.out (fun w' hw' => ?_) ?_; rotate_left; (· (have hc := fun b o h => Below.cell hw' (p := ⟨b, o, none⟩) h); go_simp; rfl); (go_simp))
          (refine j_take 2 _ ?_ hs rfl rfl (by kernel_rfl) (by kernel_rfl) HJ.out (fun w' hw' => ?_) ?_; rotate_left; (· (have hc := fun b o h => Below.cell hw' (p := ⟨b, o, none⟩) h); go_simp; rfl); (go_simp))
          (refine j_take 3 _ ?_ hs rfl rfl (by kernel_rfl) (by kernel_rfl) HJ.out (fun w' hw' => ?_) ?_; rotate_left; (· (have hc := fun b o h => Below.cell hw' (p := ⟨b, o, none⟩) h); go_simp; rfl); (go_simp))
          (refine j_take 4 _ ?_ hs rfl rfl (by kernel_rfl) (by kernel_rfl) HJ.out (fun w' hw' => ?_) ?_; rotate_left; (· (have hc := fun b o h => Below.cell hw' (p := ⟨b, o, none⟩) h); go_simp; rfl); (go_simp))
          (refine j_take 5 _ ?_ hs rfl rfl (by kernel_rfl) (by kernel_rfl) HJ.out (fun w' hw' => ?_) ?_; rotate_left; (· (have hc := fun b o h => Below.cell hw' (p := ⟨b, o, none⟩) h); go_simp; rfl); (go_simp))
          (refine j_take 6 _ ?_ hs rfl rfl (by kernel_rfl) (by kernel_rfl) HJ.out (fun w' hw' => ?_) ?_; rotate_left; (· (have hc := fun b o h => Below.cell hw' (p := ⟨b, o, none⟩) h); go_simp; rfl); (go_simp))
          (refine j_take 7 _ ?_ hs rfl rfl (by kernel_rfl) (by kernel_rfl) HJ.out (fun w' hw' => ?_) ?_; rotate_left; (· (have hc := fun b o h => Below.cell hw' (p := ⟨b, o, none⟩) h); go_simp; rfl); (go_simp))
          refine j_two 8 12 _ _ rfl rfl (by kernel_rfl) HJ.out ?_ ?_
          · clear f0 f1 f2 f3 f4 n0 n1 n2 n3 n4 p0 p1 p2 p3 p4 cd c3
            go_wp2_with fail
            refine (gained_walk s p (aheadF s dt q) nx dt d (detF (aheadF s dt q)) _ IP.out HD4.out LTS.out).mono ?_; rintro e w6 ⟨o, rfl, io, lo, hb⟩
            have IO := Lib.hid io
            have HJ := Lib.hid (Below.trans HJ.out (hb.mono HJ.out.size))
            clear hb io
            go_wp2_with fail
            refine ⟨HJ.out, ?_⟩
            (refine j_take 9 _ ?_ hs rfl rfl (by kernel_rfl) (by kernel_rfl) HJ.out (fun w' hw' => ?_) ?_; rotate_left; (· skip; go_simp; rfl); (go_simp))
            (refine j_take 10 _ ?_ hs rfl rfl (by kernel_rfl) (by kernel_rfl) HJ.out (fun w' hw' => ?_) ?_; rotate_left; (· skip; go_simp; rfl); (go_simp))
            (refine j_take 11 _ ?_ hs rfl rfl (by kernel_rfl) (by kernel_rfl) HJ.out (fun w' hw' => ?_) ?_; rotate_left; (· skip; go_simp; rfl); (go_simp))
            refine j_one 12 _ rfl (by kernel_rfl) HJ.out ?_
            go_wp2_with fail
            have hgj := HJ.out.size
            have bn := Deep.blk_alloc_new w6 (.cells #[.float .f64 0, .float .f64 0, .float .f64 0, .float .f64 0, .float .f64 0] 27)
            have HJ := Lib.hid (HJ.out.alloc hgj (.cells #[.float .f64 0, .float .f64 0, .float .f64 0, .float .f64 0, .float .f64 0] 27))
            refine ⟨HJ.out, ?_⟩
            refine j_one 13 _ rfl (by kernel_rfl) HJ.out ?_
            refine wpList_store_at rfl rfl (g := w6.heap.size) (j := 0) rfl rfl bn (by kernel_rfl) (Nat.le_of_ble_eq_true rfl) (one_fl5 _ _ _ _ _) ?_
            intro w8 b8 ob8
            have b9 : Bs w8 w6.heap.size o := b8
            have HJ := Lib.hid (Below.trans HJ.out (ob8.below hgj))
            clear b8 ob8 bn
            refine ⟨rfl, HJ.out, ?_⟩
            refine j_one 14 _ rfl (by kernel_rfl) HJ.out ?_
            go_wp2_with fail
            refine ⟨HJ.out, j_done (by kernel_rfl) ?_⟩
            go_wp2_with fail
            go_meet
            exact ⟨_, o, rfl, rfl, HB5.out.keep HJ.out, b9, IO.out⟩
          · clear f0 f1 f2 f3 f4 n0 n1 n2 n3 n4 p0 p1 p2 p3 p4 cd c3
            go_wp2_with fail
            have hgj := HJ.out.size
            have bn0 := Deep.blk_alloc_new wj (.cells #[.float .f64 0, .float .f64 0, .float .f64 0, .float .f64 0, .float .f64 0] 27)
            have zl : wj.heap.size < (wj.alloc (.cells #[.float .f64 0, .float .f64 0, .float .f64 0, .float .f64 0, .float .f64 0] 27)).heap.size := by rw [szA]; omega
            have HJ := Lib.hid (HJ.out.alloc hgj (.cells #[.float .f64 0, .float .f64 0, .float .f64 0, .float .f64 0, .float .f64 0] 27))
            refine ⟨HJ.out, ?_⟩
            refine j_one 8 _ rfl (by kernel_rfl) HJ.out ?_
            have BN := Lib.hid bn0
            have ZL := Lib.hid zl
            clear bn0 zl
            go_wp2_with fail
            refine (gained_walk s p (aheadF s dt q) nx dt d (detF (aheadF s dt q)) _ IP.out HD4.out LTS.out).mono ?_; rintro e w6 ⟨o, rfl, io, lo, hb⟩
            have IO := Lib.hid io
            have HJ := Lib.hid (Below.trans HJ.out (hb.mono HJ.out.size))
            have BN2 := Lib.hid ((hb.block _ ZL.out).trans BN.out)
            clear hb io BN ZL
            go_wp2_with fail
            refine ⟨HJ.out, ?_⟩
            (refine j_take 9 _ ?_ hs rfl rfl (by kernel_rfl) (by kernel_rfl) HJ.out (fun w' hw' => ?_) ?_; rotate_left; (· skip; go_simp; rfl); (go_simp))
            (refine j_take 10 _ ?_ hs rfl rfl (by kernel_rfl) (by kernel_rfl) HJ.out (fun w' hw' => ?_) ?_; rotate_left; (· skip; go_simp; rfl); (go_simp))
            (refine j_take 11 _ ?_ hs rfl rfl (by kernel_rfl) (by kernel_rfl) HJ.out (fun w' hw' => ?_) ?_; rotate_left; (· skip; go_simp; rfl); (go_simp))
            refine j_one 13 _ rfl (by kernel_rfl) HJ.out ?_
            have bn := BN2.out
            refine wpList_store_at rfl rfl (g := wj.heap.size) (j := 0) rfl rfl bn (by kernel_rfl) (Nat.le_of_ble_eq_true rfl) (one_fl5 _ _ _ _ _) ?_
            intro w8 b8 ob8
            have b9 : Bs w8 wj.heap.size o := b8
            have HJ := Lib.hid (Below.trans HJ.out (ob8.below hgj))
            clear b8 ob8 bn
            refine ⟨rfl, HJ.out, ?_⟩
            refine j_one 14 _ rfl (by kernel_rfl) HJ.out ?_
            go_wp2_with fail
            refine ⟨HJ.out, j_done (by kernel_rfl) ?_⟩
            go_wp2_with fail
            go_meet
            exact ⟨_, o, rfl, rfl, HB5.out.keep HJ.out, b9, IO.out⟩
        case rest =>
          obtain ⟨w6, rfl⟩ : ∃ x, x = wc := ⟨_, rfl⟩
          obtain ⟨g10, o, rfl, rfl, h6, b10, io⟩ := hcut
          cases h7 : finS (gainF s (aheadF s dt q) nx dt (detF (aheadF s dt q))) with
          | false =>
            have E2 : Hid (stepF s dt q nx = s) := Lib.hid (by rw [E.out, h7]; rfl)
            have HB6 := Lib.hid h6
            clear h6 b10 io h7 cd c3 y5 y6 y7 y8 f0 f1 f2 f3 f4 n0 n1 n2 n3 n4 p0 p1 p2 p3 p4
            go_wp2_with fail
            go_end0
            exact ⟨rfl, HB6.out.same hO E2.out⟩
          | true =>
            have E2 : Hid (stepF s dt q nx = gainF s (aheadF s dt q) nx dt (detF (aheadF s dt q))) := Lib.hid (by rw [E.out, h7]; rfl)
            have EO := Lib.hid (io.eq h7)
            have HB6 := Lib.hid h6
            have z2 := h6.bx.cell
            have z4 := h6.bx.lt
            have hO1 := Lib.hid hO
            obtain ⟨cur, hcur, h5⟩ := h6.out
            have sz : i * 5 + 5 ≤ cur.size := by have := (Array.getElem?_eq_some_iff.1 (h5 i s hO).c4).1; omega
            have H5 := Lib.hid h5
            obtain ⟨p0, p1, p2, p3, p4⟩ := b10.cells
            clear h6 b10 io h7 cd c3 y5 y6 y7 y8 f0 f1 f2 f3 f4 n0 n1 n2 n3 n4 hO h5
            go_wp2_with (refine wpList_store_at rfl rfl (g := g) (j := i * 5) rfl rfl hcur (by kernel_rfl) (by simp only [List.size_toArray, List.length_cons, List.length_nil]; omega) (one_fl5 _ _ _ _ _) ?_; intro w7 b7 ob7; have HB7 := Lib.hid (HB6.out.set (t := o) hO1.out hcur H5.out b7 ob7); clear b7 ob7 hcur)
            go_end0
            exact ⟨rfl, by rw [E2.out, ← EO.out]; exact HB7.out⟩
end Go.Proofs.Ytoobpiednigcgaa
