import Derived.Test.YtdngkeefbpffcaaPvC
import Derived.Laws.AppendOwnNone
set_option autoImplicit false
set_option linter.unusedVariables false
namespace Pl
open Lk
section
variable {lt : Nat → Nat → Bool}
/-- one more place laid into an order -/
def insAt (O : List Nat) (p i : Nat) : List Nat := O.take p ++ i :: O.drop p
theorem ins_gd {O : List Nat} {p i k : Nat} (hp : p ≤ O.length) : gd (insAt O p i) k = if k < p then gd O k else if k = p then i else gd O (k - 1) := by
  unfold insAt gd
  have lt : (O.take p).length = p := by rw [List.length_take]; omega
  split
  · rw [List.getD_eq_getElem?_getD, List.getElem?_append_left (by omega), List.getElem?_take, if_pos ‹_›, List.getD_eq_getElem?_getD]
  · rw [List.getD_eq_getElem?_getD, List.getElem?_append_right (by omega), lt]
    split
    · rename_i h; subst h; simp
    · obtain ⟨d, hd⟩ : ∃ d, k - p = d + 1 := ⟨k - p - 1, by omega⟩
      rw [hd, List.getElem?_cons_succ, List.getElem?_drop, List.getD_eq_getElem?_getD]
      congr 2; omega
theorem ord_ins (h : WO lt) {i p : Nat} (hp : p ≤ i) (h1 : ∀ t, p ≤ t → t < i → lt i (gd (ordL lt i) t) = true) (h2 : ∀ t, p = t + 1 → lt i (gd (ordL lt i) t) = false) : insAt (ordL lt i) p i = ordL lt (i + 1) := by
  obtain ⟨a1, a2, a3⟩ := ordL_ok h i
  have hpl : p ≤ (ordL lt i).length := by rw [a1]; exact hp
  have el : (insAt (ordL lt i) p i).length = i + 1 := by unfold insAt; simp [a1]; omega
  refine srt_ins h el (fun x hx => ?_) (fun a b _ hab hb => ?_)
  · unfold insAt at hx
    rcases List.mem_append.1 hx with hx | hx
    · have := a2 x (List.mem_of_mem_take hx); omega
    · rcases List.mem_cons.1 hx with rfl | hx
      · omega
      · have := a2 x (List.mem_of_mem_drop hx); omega
  · rw [ins_gd hpl, ins_gd hpl]
    have ahd : ∀ t, t < p → ld lt (gd (ordL lt i) t) i := fun t ht => by
      have q1 : lt i (gd (ordL lt i) t) = false := by
        rw [Bool.eq_false_iff]
        intro c
        have z := h2 (p - 1) (by omega)
        rcases h.sp (gd (ordL lt i) (p - 1)) c with u | u
        · rw [z] at u; cases u
        · rw [srt_le h a3 (i := t) (j := p - 1) (Nat.zero_le _) (by omega) (by omega)] at u; cases u
      have q2 : gd (ordL lt i) t < i := gd_mem a2 (by omega)
      exact .inr ⟨q1, q2⟩
    by_cases c1 : b < p
    · rw [if_pos (by omega), if_pos c1]; exact a3 a b (Nat.zero_le _) hab (by omega)
    · rw [if_neg c1]
      by_cases c2 : b = p
      · rw [if_pos c2, if_pos (by omega)]; exact ahd a (by omega)
      · rw [if_neg c2]
        by_cases c3 : a < p
        · rw [if_pos c3]; exact a3 a (b - 1) (Nat.zero_le _) (by omega) (by omega)
        · rw [if_neg c3]
          by_cases c4 : a = p
          · rw [if_pos c4]; exact .inl (h1 (b - 1) (by omega) (by omega))
          · rw [if_neg c4]; exact a3 (a - 1) (b - 1) (Nat.zero_le _) (by omega) (by omega)
theorem ord_zero (lt : Nat → Nat → Bool) : ordL lt 0 = [] := by unfold ordL; rw [insF_small lt _ (by omega)]; rfl
end
end Pl
namespace Go.Proofs.Ytdngkeefbpffcaa
open Go.RowKit Lk Pl
section
variable {P : Program} {ops : Array Oper} {rest : List Oper} {o : Oper} {a : Act} {Q : Exit → Act → World → Prop} {w : World}
/-- append of whatever slice to a row of one's own -/
theorem wpList_append_any (hgd : o.guard = none) (s x : Operand) (t : TypeId) (ho : o.op = .call { callee := .builtin .append, args := #[s, x], argTypes := #[t, t] })
    (base : Nat) (e : TypeId) (i : TypeInfo) (z : Value) (size bytes : Nat) (ht : P.underlying t = some (.slice e)) (hi : P.info? e = some i) (hz : i.zero = some z)
    (hsize : i.size = size) (hby : i.bytes = bytes) (hzs : z.cells.size = size) (hsz : 0 < size)
    (v : Value) (n : Nat) (xs : List Value) (hs : a.eval s = v) (hown : w.ownsRow base e size v n xs)
    (ad : Option Addr) (m c : Nat) (news : List Value) (hx : a.eval x = .slice ad m c) (hnil : ad = none → m = 0 ∧ c = 0) (hl : news.length = m * size) (hnews : ∀ b, ad = some b → ∀ j u, news[j]? = some u → w.cell? (b.add j) = some u) (h1 : ∀ u ∈ news, u.oneCell' = true)
    (h63 : n + m ≤ maxLen) (hbytes : (n + m) * bytes ≤ 140737488355328) (hbase : base ≤ w.heap.size)
    (h : ∀ v' w', w'.ownsRow base e size v' (n + m) (xs ++ news) → w.grownBy w' v.ownBlock → (v'.ownBlock = v.ownBlock ∨ v'.ownBlock = some w.heap.size) → wpList P ops Q rest (a.put o.dst v') w') :
    wpList P ops Q (o :: rest) a w := by
  cases ad with
  | none =>
    obtain ⟨rfl, rfl⟩ := hnil rfl
    obtain rfl : news = [] := List.eq_nil_of_length_eq_zero (by omega)
    refine wpList_append_own_none hgd s x t ho base e i size ht hi v n xs hs hown hx (h v w (by simpa using hown) ⟨rfl, rfl, rfl, Nat.le_refl _, fun _ _ _ => rfl⟩ (.inl rfl))
  | some ad =>
    exact wpList_append_own_at _ hgd s x t ho base e i z size bytes ht hi hz hsize hby hzs hsz v n xs hs hown ad m c news hx hl (hnews ad rfl) h1 h63 hbytes hbase (fun v' w' q1 q2 _ q4 => h v' w' q1 q2 q4)
end
end Go.Proofs.Ytdngkeefbpffcaa

set_option autoImplicit false
set_option linter.unusedVariables false
namespace Go.Proofs.Ytdngkeefbpffcaa
open Go.RowKit Lk Pl
/-! the document's Order -/
theorem ints_len (D : List Nat) : (ints D).length = D.length := by simp [ints]
theorem ints_app (D E : List Nat) : ints D ++ ints E = ints (D ++ E) := by simp [ints]
theorem ints_one (D : List Nat) : ∀ u ∈ ints D, u.oneCell' = true := by
  intro u hu
  obtain ⟨n, _, rfl⟩ := List.mem_map.1 hu; rfl
theorem Try.undI : Try.prog.underlying 48 = some (.slice 3) := by kernel_rfl
theorem in_info : (Try.prog.info? 3).map (fun i => (i.zero.map (fun z => z.cells.size), i.size, i.bytes)) = some (some 1, 1, 8) := by kernel_rfl
/-- a row of numbers of one's own, in memory -/
theorem int_own {w : World} {B n : Nat} {v : Value} {O : List Nat} (h : w.ownsRow B 3 1 v n (ints O)) : ∃ ao co, v = .slice ao n co ∧ n ≤ co ∧ co ≤ 9223372036854775807 ∧ O.length = n ∧ (ao = none → n = 0 ∧ co = 0) ∧ ∀ g, ao = some g → g = ⟨g.block, 0, none⟩ ∧ B ≤ g.block ∧ g.block < w.heap.size ∧ ∀ (j x : Nat), O[j]? = some x → w.cell? ⟨g.block, j, none⟩ = some (.int .i64 (x : Int)) := by
  have hl := h.1
  rw [ints_len] at hl
  rcases h.2 with ⟨rfl, h0⟩ | ⟨g, cap, cur, rfl, hB, hb, h1, h2, _, h3⟩
  · subst h0
    exact ⟨none, 0, rfl, Nat.le_refl _, by omega, by omega, fun _ => ⟨rfl, rfl⟩, fun g hg => by cases hg⟩
  · refine ⟨_, cap, rfl, h1, by unfold maxLen at h2; omega, by omega, fun q => by (cases q), fun a ha => ?_⟩
    cases ha
    refine ⟨rfl, hB, (Array.getElem?_eq_some_iff.1 hb).1, fun j x hj => ?_⟩
    have := h.cells (g := g) rfl j (.int .i64 (x : Int)) (by unfold ints; rw [List.getElem?_map, hj]; rfl)
    simpa [Addr.add_lit] using this
theorem run_front (ao : Option Addr) (n co k : Nat) (hk : k ≤ n) (hn : n ≤ co) (hs : co ≤ 9223372036854775807) (hz : ao = none → n = 0 ∧ co = 0) (h0 : ∀ g, ao = some g → g = ⟨g.block, 0, none⟩) (w : World) :
    (Instr.slice 48 (.slice ao n co) none (some (.int .i64 (k : Int))) none).run Try.prog w = .ok (.slice ao k co) w := by
  cases ao with
  | none =>
    obtain ⟨rfl, rfl⟩ := hz rfl
    obtain rfl : k = 0 := by omega
    simp [Instr.slice, run_underlying Try.undI, Instr.sliceBounds, Instr.sliceBound, asIntOf, go_sem]
  | some g =>
    have e := h0 g rfl
    rw [e]
    have kc : k ≤ co := by omega
    simp [Instr.slice, run_underlying Try.undI, Instr.sliceBounds, Instr.sliceBound, asIntOf, go_sem, kc]
theorem run_back (ao : Option Addr) (n co k : Nat) (hk : k ≤ n) (hn : n ≤ co) (hs : co ≤ 9223372036854775807) (hz : ao = none → n = 0 ∧ co = 0) (h0 : ∀ g, ao = some g → g = ⟨g.block, 0, none⟩) :
    ∃ a2, (a2 = none → n - k = 0 ∧ co - k = 0) ∧ (∀ g, a2 = some g → ∃ g0, ao = some g0 ∧ g = ⟨g0.block, g.off, none⟩ ∧ (k = n ∨ g.off = k)) ∧ ∀ w, (Instr.slice 48 (.slice ao n co) (some (.int .i64 (k : Int))) none none).run Try.prog w = .ok (.slice a2 (n - k) (co - k)) w := by
  have hz3 : ∀ w, (sizeOf 3).run Try.prog w = .ok 1 w := fun w => by kernel_rfl
  cases ao with
  | none =>
    obtain ⟨rfl, rfl⟩ := hz rfl
    obtain rfl : k = 0 := by omega
    exact ⟨none, fun _ => ⟨rfl, rfl⟩, fun g hg => by (cases hg), fun w => by simp [Instr.slice, run_underlying Try.undI, Instr.sliceBounds, Instr.sliceBound, asIntOf, go_sem]⟩
  | some g =>
    have e := h0 g rfl
    obtain ⟨b, hb⟩ : ∃ b, b = g.block := ⟨_, rfl⟩
    rw [← hb] at e
    subst e
    have kn : ¬ (n : Int) < (k : Int) := by omega
    by_cases hc : co - k = 0
    · refine ⟨some ⟨b, 0, none⟩, fun q => by (cases q), fun g hg => by cases hg; exact ⟨_, rfl, rfl, .inl (by omega)⟩, fun w => ?_⟩
      obtain rfl : k = co := by omega
      obtain rfl : n = k := by omega
      simp [Instr.slice, run_underlying Try.undI, Instr.sliceBounds, Instr.sliceBound, asIntOf, go_sem, hz3]
    · refine ⟨some ⟨b, k, none⟩, fun q => by (cases q), fun g hg => by cases hg; exact ⟨_, rfl, rfl, .inr rfl⟩, fun w => ?_⟩
      have hc2 : ¬ co ≤ k := by omega
      have hc3 : ¬ co = k := by omega
      simp [Instr.slice, run_underlying Try.undI, Instr.sliceBounds, Instr.sliceBound, asIntOf, go_sem, hk, hz3, hc3]
end Go.Proofs.Ytdngkeefbpffcaa
