/- The disk, plainly: what each call answers and leaves. No conditions. -/
import Derived.Test.YtedjfbkfaioihaaDmap
import Derived.Test.YtedjfbkfaioihaaNeed
namespace Go.Proofs.Ytedjfbkfaioihaa
open Go.RowKit

/-- A file: its bytes, of which the first s are sure. -/
structure Fl where
  b : List Nat
  s : Nat
/-- What was done to the directory: 0 a name was given, 1 it was taken and given, 2 it was taken. -/
structure Ac where
  k : Nat
  n : ByteArray
  m : ByteArray
  f : Nat
/-- A disk. -/
structure Ds where
  quota : Int
  fs : List Fl
  dir : List En
  sure : List En
  acts : List Ac
  off : Bool
  fuse : Int
  fault : Int
  steps : Int

def noname : ByteArray := ⟨#[]⟩
/-- The j-th file. -/
def fl (fs : List Fl) (j : Nat) : Fl := fs.getD j ⟨[], 0⟩
/-- Which file has the name. -/
def fnd (n : List UInt8) (L : List En) : Option Nat := (L.find? fun q => q.nm == n).map En.f
/-- How many bytes the files of a directory have. -/
def usedL (fs : List Fl) (L : List En) : Nat := (L.map fun e => (fl fs e.f).b.length).sum
/-- May no file have the name? -/
def badn (s : ByteArray) : Bool := decide (s.size = 0) || decide (60 < s.size)

theorem fnd_none {n : List UInt8} {L : List En} : fnd n L = none ↔ hasp n L = false := by
  unfold fnd hasp
  rw [Option.map_eq_none_iff, List.find?_eq_none, List.any_eq_false]
theorem fnd_some {n : List UInt8} {L : List En} {j : Nat} (h : fnd n L = some j) : hasp n L = true ∧ ∃ e ∈ L, e.nm = n ∧ e.f = j := by
  unfold fnd at h
  rw [Option.map_eq_some_iff] at h
  obtain ⟨e, he, rfl⟩ := h
  have h1 := List.mem_of_find?_eq_some he
  have h2 := List.find?_some he
  have h2' : e.nm = n := by simpa using h2
  refine ⟨?_, e, h1, h2', rfl⟩
  unfold hasp
  rw [List.any_eq_true]
  exact ⟨e, h1, h2⟩

/-- What a call by its kind has against it. -/
def ownE (st : Ds) (k : Nat) (n m : ByteArray) (b : List Nat) : Int :=
  match k with
  | 0 => if badn n = true then 1 else if hasp n.data.toList st.dir = true then 7 else 0
  | 1 => match fnd n.data.toList st.dir with
    | none => 6
    | some j => if 16777216 < (fl st.fs j).b.length + b.length then 2 else if st.quota < (usedL st.fs st.dir : Int) + b.length then 11 else 0
  | 3 => if hasp n.data.toList st.dir = false then 6 else if badn m = true then 1 else 0
  | 5 => 0
  | _ => if hasp n.data.toList st.dir = false then 6 else 0

/-- What it does. -/
def doS (st : Ds) (k : Nat) (n m : ByteArray) (b : List Nat) : Ds :=
  match k with
  | 0 => { st with fs := st.fs ++ [⟨[], 0⟩], dir := putp ⟨n, st.fs.length⟩ st.dir, acts := st.acts ++ [⟨0, n, noname, st.fs.length⟩] }
  | 1 => match fnd n.data.toList st.dir with
    | none => st
    | some j => { st with fs := st.fs.set j ⟨(fl st.fs j).b ++ b, (fl st.fs j).s⟩ }
  | 2 => match fnd n.data.toList st.dir with
    | none => st
    | some j => { st with fs := st.fs.set j ⟨(fl st.fs j).b, (fl st.fs j).b.length⟩ }
  | 3 => match fnd n.data.toList st.dir with
    | none => st
    | some j => { st with dir := putp ⟨m, j⟩ (delp n.data.toList st.dir), acts := st.acts ++ [⟨1, n, m, j⟩] }
  | 4 => { st with dir := delp n.data.toList st.dir, acts := st.acts ++ [⟨2, n, noname, 0⟩] }
  | _ => { st with sure := st.dir, acts := [] }

/-- What a step answers. -/
def stepE (st : Ds) (own : Int) : Int := if st.off = true then 12 else if st.fuse = 0 then 12 else if own ≠ 0 then own else if st.fault = 0 then 10 else 0
/-- What it leaves; st2: what is done. -/
def stepS (st : Ds) (own : Int) (st2 : Ds) : Ds :=
  if st.off = true then st else if st.fuse = 0 then { st with off := true } else if own ≠ 0 then st else if st.fault = 0 then { st with fault := -1 }
  else { st2 with off := false, steps := st.steps + 1, fuse := less st.fuse, fault := less st.fault }

/-- A name's act on a directory. -/
def actD (a : Ac) (L : List En) : List En :=
  match a.k with
  | 0 => putp ⟨a.n, a.f⟩ L
  | 1 => match fnd a.n.data.toList L with
    | none => L
    | some j => putp ⟨a.m, j⟩ (delp a.n.data.toList L)
  | _ => delp a.n.data.toList L

/-- What a crash's numbers are. -/
def pick (keep : List Int) (i : Nat) : Int := keep.getD i 0
def odd (x : Int) : Bool := decide (x % 2 ≠ 0)
/-- The acts that hold. -/
def crashA (keep : List Int) : Nat → List Ac → List En → List En
  | _, [], L => L
  | i, a :: r, L => crashA keep (i + 1) r (if odd (pick keep i) = true then actD a L else L)
/-- What stays of a file. -/
def keptL (x : Fl) (k : Int) (g : Bool) : List Nat :=
  let e := x.s + (min (max 0 k) ((x.b.length : Int) - x.s)).toNat
  let p := x.b.take e
  if g = true ∧ x.s < e then p.mapIdx fun i y => if max x.s ((e - 1) / 512 * 512) ≤ i then y ^^^ 165 else y else p
/-- The files, name by name. -/
def crashF (keep : List Int) : Nat → List En → List Fl → List Fl
  | _, [], fs => fs
  | i, e :: r, fs =>
    if (fl fs e.f).s < (fl fs e.f).b.length then
      crashF keep (i + 2) r (fs.set e.f ⟨keptL (fl fs e.f) (pick keep i) (odd (pick keep (i + 1))), (keptL (fl fs e.f) (pick keep i) (odd (pick keep (i + 1)))).length⟩)
    else crashF keep i r fs
/-- A crash. -/
def crash (st : Ds) (keep : List Int) : Ds :=
  let L := crashA keep 0 st.acts st.sure
  { st with sure := L, dir := L, acts := [], fs := crashF keep st.acts.length L st.fs, off := false, fuse := -1, fault := -1 }

/-- What holds of a disk. -/
structure Inv (st : Ds) : Prop where
  dir : ∀ e ∈ st.dir, e.f < st.fs.length ∧ e.n.size ≤ 60
  sure : ∀ e ∈ st.sure, e.f < st.fs.length ∧ e.n.size ≤ 60
  acts : ∀ a ∈ st.acts, a.n.size ≤ 60 ∧ a.m.size ≤ 60 ∧ a.k ≤ 2 ∧ (a.k = 0 → a.f < st.fs.length)
  risd : Ris st.dir
  riss : Ris st.sure
  one : (st.dir.map En.f).Nodup
  ones : (st.sure.map En.f ++ (st.acts.filter fun a => a.k == 0).map Ac.f).Nodup
  fs : ∀ x ∈ st.fs, x.s ≤ x.b.length ∧ ∀ y ∈ x.b, y < 256
  quota : 0 ≤ st.quota ∧ st.quota ≤ 67108864
  fuse : -1 ≤ st.fuse ∧ st.fuse ≤ 9223372036854775807
  fault : -1 ≤ st.fault ∧ st.fault ≤ 9223372036854775807
  steps : 0 ≤ st.steps
end Go.Proofs.Ytedjfbkfaioihaa
