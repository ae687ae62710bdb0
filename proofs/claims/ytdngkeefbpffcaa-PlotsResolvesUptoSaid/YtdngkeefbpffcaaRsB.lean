import Derived.Test.YtdngkeefbpffcaaRsA
import Derived.Test.YtdngkeefbpffcaaRsC
import Derived.Test.YtdngkeefbpffcaaFlS
import Derived.Deep.QuietTactic
set_option autoImplicit false
set_option linter.unusedVariables false
namespace Go.Proofs.Ytdngkeefbpffcaa
open Go.RowKit Lk Rs
/-- a slice of slices of whole numbers -/
structure SC (w : World) (a : Option Addr) (n cap : Nat) (LL : List (List Int)) : Prop where
  len : LL.length = n
  le : n ≤ cap
  small : cap ≤ 9223372036854775807
  cells : n = 0 ∨ ∃ b off, a = some ⟨b, off, none⟩ ∧ b < w.heap.size ∧ ∀ (j : Nat) C, LL[j]? = some C → ∃ a' c', w.cell? ⟨b, off + j, none⟩ = some (.slice a' C.length c') ∧ SN w a' C.length c' C
theorem SC.at {w : World} {a : Option Addr} {n cap : Nat} {LL : List (List Int)} (h : SC w a n cap LL) {k : Nat} (hk : k < n) : ∃ b off C a' c', a = some ⟨b, off, none⟩ ∧ b < w.heap.size ∧ LL[k]? = some C ∧ w.cell? ⟨b, off + k, none⟩ = some (.slice a' C.length c') ∧ SN w a' C.length c' C := by
  rcases h.cells with h0 | ⟨b, off, ha, hb, hc⟩
  · omega
  · have hl : k < LL.length := by rw [h.len]; exact hk
    obtain ⟨a', c', h1, h2⟩ := hc k _ (List.getElem?_eq_getElem hl)
    exact ⟨b, off, LL[k], a', c', ha, hb, List.getElem?_eq_getElem hl, h1, h2⟩
theorem SC.keep {w w' : World} {a : Option Addr} {n cap : Nat} {LL : List (List Int)} (h : SC w a n cap LL) (b : Below w.heap.size w w') : SC w' a n cap LL :=
  ⟨h.len, h.le, h.small, h.cells.imp id fun ⟨g, off, ha, hg, hc⟩ => ⟨g, off, ha, Nat.lt_of_lt_of_le hg b.size, fun j C hC => by
    obtain ⟨a', c', h1, h2⟩ := hc j C hC
    exact ⟨a', c', (b.cell (p := ⟨g, off + j, none⟩) hg).trans h1, h2.keep b⟩⟩⟩
theorem SC.take {w : World} {a : Option Addr} {n cap : Nat} {LL : List (List Int)} (h : SC w a n cap LL) {m : Nat} (hm : m ≤ n) : SC w a m cap (LL.take m) :=
  ⟨by rw [List.length_take, h.len]; omega, by have := h.le; omega, h.small, by
    rcases h.cells with h0 | ⟨b, off, ha, hb, hc⟩
    · exact .inl (by omega)
    · refine .inr ⟨b, off, ha, hb, fun j C hC => hc j C ?_⟩
      rw [List.getElem?_take] at hC
      split at hC
      · exact hC
      · cases hC⟩
/-- a beat's words -/
structure Bt where
  c : Nat
  v : Nat
  r : Nat
  e : Int
  n : Int
structure AtBt (w : World) (b o : Nat) (t : Bt) : Prop where
  c0 : w.cell? ⟨b, o, none⟩ = some (.float .f64 t.c)
  c1 : w.cell? ⟨b, o + 1, none⟩ = some (.float .f64 t.v)
  c2 : w.cell? ⟨b, o + 2, none⟩ = some (.float .f64 t.r)
  c3 : w.cell? ⟨b, o + 3, none⟩ = some (.int .i64 t.e)
  c4 : w.cell? ⟨b, o + 4, none⟩ = some (.int .i64 t.n)
theorem AtBt.below {w w' : World} {b o : Nat} {t : Bt} (h : AtBt w b o t) (hb : b < w.heap.size) (B : Below w.heap.size w w') : AtBt w' b o t :=
  have k : ∀ i, w'.cell? ⟨b, i, none⟩ = w.cell? ⟨b, i, none⟩ := fun i => B.cell (p := ⟨b, i, none⟩) hb
  ⟨(k _).trans h.c0, (k _).trans h.c1, (k _).trans h.c2, (k _).trans h.c3, (k _).trans h.c4⟩
structure BtOk (t : Bt) : Prop where
  e1 : -9223372036854775808 ≤ t.e
  e2 : t.e ≤ 9223372036854775807
  n1 : -9223372036854775808 ≤ t.n
  n2 : t.n ≤ 9223372036854775807
/-- a slice of beats -/
structure SBt (w : World) (a : Option Addr) (n cap : Nat) (L : List Bt) : Prop where
  len : L.length = n
  le : n ≤ cap
  small : cap ≤ 9223372036854775807
  cells : n = 0 ∨ ∃ b off, a = some ⟨b, off, none⟩ ∧ b < w.heap.size ∧ ∀ (j : Nat) t, L[j]? = some t → AtBt w b (off + j * 5) t
  ok : ∀ t ∈ L, BtOk t
theorem SBt.at {w : World} {a : Option Addr} {n cap : Nat} {L : List Bt} (h : SBt w a n cap L) {k : Nat} (hk : k < n) : ∃ b off t, a = some ⟨b, off, none⟩ ∧ b < w.heap.size ∧ L[k]? = some t ∧ AtBt w b (off + k * 5) t ∧ BtOk t := by
  rcases h.cells with h0 | ⟨b, off, ha, hb, hc⟩
  · omega
  · have hl : k < L.length := by rw [h.len]; exact hk
    exact ⟨b, off, L[k], ha, hb, List.getElem?_eq_getElem hl, hc k _ (List.getElem?_eq_getElem hl), h.ok _ (List.getElem_mem hl)⟩
theorem SBt.keep {w w' : World} {a : Option Addr} {n cap : Nat} {L : List Bt} (h : SBt w a n cap L) (b : Below w.heap.size w w') : SBt w' a n cap L :=
  ⟨h.len, h.le, h.small, h.cells.imp id fun ⟨g, off, ha, hg, hc⟩ => ⟨g, off, ha, Nat.lt_of_lt_of_le hg b.size, fun j t ht => (hc j t ht).below hg b⟩, h.ok⟩
theorem SBt.take {w : World} {a : Option Addr} {n cap : Nat} {L : List Bt} (h : SBt w a n cap L) {m : Nat} (hm : m ≤ n) : SBt w a m cap (L.take m) :=
  ⟨by rw [List.length_take, h.len]; omega, by have := h.le; omega, h.small, (by
    rcases h.cells with h0 | ⟨b, off, ha, hb, hc⟩
    · exact .inl (by omega)
    · refine .inr ⟨b, off, ha, hb, fun j C hC => hc j C ?_⟩
      rw [List.getElem?_take] at hC
      split at hC
      · exact hC
      · cases hC), fun t ht => h.ok t (List.mem_of_mem_take ht)⟩
/-! plain words -/
def longC (LL : List (List Int)) : Bool := LL.any fun C => decide (256 < C.length)
def chkB (t : Bt) : Int := chk t.c t.v t.r t.e t.n
def firstE : List Bt → Int
  | [] => 0
  | t :: l => if chkB t = 0 then firstE l else chkB t
/-- the first place of a long one, or -1 -/
def idxC (LL : List (List Int)) (k : Nat) : List (List Int) → Int
  | [] => -1
  | C :: l => if 256 < C.length then k else idxC LL (k + 1) l
theorem longC_succ {LL : List (List Int)} {k : Nat} {C : List Int} (h : LL[k]? = some C) : longC (LL.take (k + 1)) = (longC (LL.take k) || decide (256 < C.length)) := by
  unfold longC; rw [List.take_add_one, h, List.any_append]; simp
theorem longC_of {LL : List (List Int)} {k : Nat} {C : List Int} (h : LL[k]? = some C) (h2 : 256 < C.length) : longC LL = true := by
  unfold longC; exact List.any_eq_true.2 ⟨C, List.mem_of_getElem? h, by simpa using h2⟩
set_option maxHeartbeats 1000000 in
theorem index_walk (a : Option Addr) (n cap : Nat) (LL : List (List Int)) (w : World) (hC : SC w a n cap LL) :
    Calls Try.prog 61 #[.slice a n cap, .func (.func 37) #[] #[]] w (fun e w' => (∃ i : Int, e = .returned (.int .i64 i) ∧ (longC LL = decide (0 ≤ i))) ∧ Below w.heap.size w w') := by
  have hcf : ∀ (args : Array Value) (w : World), (callFunc 37 args).run Try.prog w = .ok (.enter 37 args) w := fun _ _ => by kernel_rfl
  have hlen : ∀ (a : Option Addr) (n cap : Nat) (w : World), Calls Try.prog 37 #[.slice a n cap] w (fun e w' => e = .returned (.bool (decide (256 < n))) ∧ w = w') := fun a n cap w => by
    go_enter Try.func37, Try.ntmps37
    go_wp2_with fail
    go_ret
    exact ⟨by simp; omega, rfl⟩
  have n63 : n ≤ 9223372036854775807 := Nat.le_trans hC.le hC.small
  have nc := hC.le
  have c63 := hC.small
  have HC := Lib.hid hC
  have HL := Lib.hid hlen
  clear hC hlen
  go_enter Try.func61, Try.ntmps61
  go_wp2_with fail
  go_loopw [8] (fun i wr => ∃ k : Nat, i = .int .i64 k ∧ k ≤ n ∧ longC (LL.take k) = false ∧ w = wr) (fun i _ => n - (intOf i).toNat)
  case atStart => exact ⟨0, rfl, by omega, by simp [longC], rfl⟩
  case round =>
    obtain ⟨k, rfl, hk, hf, rfl⟩ := hrel
    have HF := Lib.hid hf
    clear hf
    by_cases hlt : k < n
    · obtain ⟨b, of, C, a', c', rfl, hb, hx, c0, sn⟩ := HC.out.at hlt
      have HX := Lib.hid hx
      have s1 := sn.le
      have s2 := sn.small
      obtain ⟨q, hq⟩ : ∃ q, q = C.length := ⟨_, rfl⟩
      rw [← hq] at c0 s1
      have HQ := Lib.hid hq
      clear sn hx hq
      go_wp2_with fail
      refine (HL.out _ _ _ _).mono ?_
      rintro e w1 ⟨rfl, rfl⟩
      by_cases g : 256 < q
      · have gd : decide (256 < q) = true := decide_eq_true g
        rw [gd]
        go_wp2_with fail
        go_ret
        exact ⟨⟨k, rfl, by rw [longC_of HX.out (by rw [← HQ.out]; exact g)]; simp⟩, Below.refl _ _⟩
      · have gd : decide (256 < q) = false := decide_eq_false g
        have nx : Hid (longC (LL.take (k + 1)) = false) := Lib.hid (by rw [longC_succ HX.out, HF.out, ← HQ.out, gd]; rfl)
        rw [gd]
        go_wp2_with fail
        go_roundw
        case rel => exact ⟨k + 1, rfl, by omega, nx.out, trivial⟩
        case measure => simp only [intOf]; omega
    · have e : LL.take k = LL := List.take_of_length_le (by rw [HC.out.len]; omega)
      rw [e] at HF
      go_wp2_with fail
      go_ret
      exact ⟨⟨-1, rfl, by rw [HF.out]; rfl⟩, Below.refl _ _⟩
set_option maxHeartbeats 1000000 in
theorem contains_walk (a : Option Addr) (n cap : Nat) (LL : List (List Int)) (w : World) (hC : SC w a n cap LL) :
    Calls Try.prog 36 #[.slice a n cap, .func (.func 37) #[] #[]] w (fun e w' => e = .returned (.bool (longC LL)) ∧ Below w.heap.size w w') := by
  have I := Lib.hid (index_walk a n cap LL w hC)
  clear hC
  go_enter Try.func36, Try.ntmps36
  go_wp2_with fail
  refine I.out.mono ?_
  rintro e w1 ⟨⟨i, rfl, hl⟩, b⟩
  have B := Lib.hid b
  have HL := Lib.hid hl
  clear b hl I
  go_wp2_with fail
  go_ret
  exact ⟨ret_bool HL.out.symm, B.out⟩
end Go.Proofs.Ytdngkeefbpffcaa
