set_option autoImplicit false
namespace Pn
/-! layer 24 in plain words -/
structure Tk where
  ev : Int
  lg : Int
  rk : Int
structure Rn where
  t : Tk
  fi : Int
  ct : Int
structure Ln where
  t : Tk
  nx : Int
  wt : List Rn
  lf : Int
structure Pl where
  l : List Ln
  now : Int
structure Job where
  due : Int
  rk : Int
  task : Int
structure Sl where
  task : Int
  fr : Int
  to : Int
  late : Bool
def FAR : Int := 1152921504606846976
def LONG : Int := 1099511627776
def mayT (t : Tk) : Bool := decide (1 ≤ t.ev) && decide (t.ev ≤ LONG) && decide (1 ≤ t.lg) && decide (t.lg ≤ t.ev)
def tkEq (a b : Tk) : Bool := decide (a.ev = b.ev) && decide (a.lg = b.lg) && decide (a.rk = b.rk)
theorem tkEq_iff {a b : Tk} : tkEq a b = true ↔ a = b := by
  unfold tkEq; cases a; cases b; simp [and_assoc]
/-- how many are released -/
def relN (T : Int) (x : Ln) : Int := (T - x.nx) / x.t.ev + 1
def relW (T : Int) (x : Ln) : List Rn :=
  match x.wt.getLast? with
  | none => [⟨x.t, x.nx, relN T x⟩]
  | some r => if tkEq r.t x.t then x.wt.dropLast ++ [⟨r.t, r.fi, r.ct + relN T x⟩] else x.wt ++ [⟨x.t, x.nx, relN T x⟩]
def relL (T : Int) (x : Ln) : Ln :=
  if T < x.nx then x else ⟨x.t, x.nx + relN T x * x.t.ev, relW T x, if x.wt.isEmpty then x.t.lg else x.lf⟩
def rel (T : Int) (l : List Ln) : List Ln := l.map (relL T)
def bef (a b : Job) : Bool :=
  if a.due ≠ b.due then decide (a.due < b.due) else if a.rk ≠ b.rk then decide (b.rk < a.rk) else decide (a.task < b.task)
def bstep (b : Job) (i : Nat) (x : Ln) : Job :=
  match x.wt with
  | [] => b
  | r :: _ => if b.task < 0 || bef ⟨r.fi + r.t.ev, r.t.rk, i⟩ b then ⟨r.fi + r.t.ev, r.t.rk, i⟩ else b
def bestK (l : List Ln) : Nat → Job
  | 0 => ⟨0, 0, -1⟩
  | k + 1 => match l[k]? with
    | some x => bstep (bestK l k) k x
    | none => bestK l k
def best (l : List Ln) : Job := bestK l l.length
def minK (l : List Ln) (lim : Int) : Nat → Int
  | 0 => lim
  | k + 1 => match l[k]? with
    | some x => min (minK l lim k) x.nx
    | none => minK l lim k
def tstep (j : Job) (to : Int) (i : Nat) (x : Ln) : Int :=
  if x.wt.isEmpty && bef ⟨x.nx + x.t.ev, x.t.rk, i⟩ j then min to x.nx else to
def toK (l : List Ln) (j : Job) (to : Int) : Nat → Int
  | 0 => to
  | k + 1 => match l[k]? with
    | some x => tstep j (toK l j to k) k x
    | none => toK l j to k
def lfAt (l : List Ln) (i : Int) : Int := match l[i.toNat]? with
  | some x => x.lf
  | none => 0
def toOf (l : List Ln) (j : Job) (fr : Int) : Int := toK l j (fr + lfAt l j.task) l.length
def slOf (l : List Ln) (j : Job) (fr : Int) : Sl := ⟨j.task, fr, toOf l j fr, decide (j.due < toOf l j fr)⟩
/-- the lines, and the stretch with its due, if there is one -/
def strL (l : List Ln) (now lim : Int) : List Ln × Option (Sl × Int) :=
  if (best (rel now l)).task < 0 then
    if minK (rel now l) lim l.length = lim then (rel now l, none)
    else (rel (minK (rel now l) lim l.length) (rel now l), some (slOf (rel (minK (rel now l) lim l.length) (rel now l)) (best (rel (minK (rel now l) lim l.length) (rel now l))) (minK (rel now l) lim l.length), (best (rel (minK (rel now l) lim l.length) (rel now l))).due))
  else (rel now l, some (slOf (rel now l) (best (rel now l)) now, (best (rel now l)).due))
/-- what is left behind a job's end -/
def popW : List Rn → List Rn
  | [] => []
  | r :: w => if r.ct - 1 = 0 then w else ⟨r.t, r.fi + r.t.ev, r.ct - 1⟩ :: w
def doneL (d : Int) (x : Ln) : Ln :=
  if 0 < x.lf - d then { x with lf := x.lf - d }
  else match popW x.wt with
    | [] => { x with wt := [], lf := x.lf - d }
    | r :: w => { x with wt := r :: w, lf := r.t.lg }
def setL (l : List Ln) (i : Int) (f : Ln → Ln) : List Ln := l.modify i.toNat f
def doneP (l : List Ln) (s : Sl) : Pl := ⟨setL l s.task (doneL (s.to - s.fr)), s.to⟩
/-- the next stretch, and an error's number -/
def nextP (p : Pl) : Pl × Sl × Int :=
  match p.l with
  | [] => (p, ⟨0, 0, 0, false⟩, 240)
  | _ :: _ => match strL p.l p.now FAR with
    | (_, none) => (p, ⟨0, 0, 0, false⟩, 3)
    | (l, some (s, _)) => if FAR < s.to then (p, ⟨0, 0, 0, false⟩, 3) else (doneP l s, s, 0)
def cutS (tick due : Int) (s : Sl) : Sl := if tick < s.to then ⟨s.task, s.fr, tick, decide (due < tick)⟩ else s
def untilK (tick : Int) : Nat → Pl → Pl × List Sl
  | 0, p => (p, [])
  | f + 1, p => if tick ≤ p.now then (p, []) else
    match strL p.l p.now tick with
    | (l, none) => (⟨l, tick⟩, [])
    | (l, some (s, due)) => ((untilK tick f (doneP l (cutS tick due s))).1, cutS tick due s :: (untilK tick f (doneP l (cutS tick due s))).2)
def untilP (p : Pl) (tick : Int) : Pl × List Sl := untilK (min tick FAR) 65536 p
def setP (p : Pl) (i : Int) (t : Tk) : Pl × Int :=
  if i < 0 || decide ((p.l.length : Int) ≤ i) || !(mayT t) then (p, 240) else (⟨setL (rel p.now p.l) i (fun x => { x with t := t }), p.now⟩, 0)
def newP (l : List Tk) : Pl := ⟨l.map fun t => ⟨t, 0, [], 0⟩, 0⟩
def newE (l : List Tk) : Int := if 256 < l.length then 3 else if l.all mayT then 0 else 240
/-! the load -/
def BND : Nat := 4611686018427387904
def loadS (nd : Nat × Nat) (t : Tk) : Option (Nat × Nat) :=
  let ev := t.ev.toNat
  let g := Nat.gcd nd.2 ev
  let e := nd.2 / g * ev
  let x := nd.1 * (ev / g)
  let y := t.lg.toNat * (nd.2 / g)
  if BND < e || BND < x || BND < y || BND < x + y then none
  else some ((x + y) / Nat.gcd e (x + y), e / Nat.gcd e (x + y))
def loadK (nd : Nat × Nat) : List Tk → Option (Nat × Nat)
  | [] => some nd
  | t :: l => match loadS nd t with
    | none => none
    | some nd' => loadK nd' l
def loadF (l : List Tk) : Nat × Nat := (loadK (0, 1) l).getD (0, 0)
end Pn
