/- What the reference's Fits answers. Conditions: at most 10^6 labels, values of at most 10^15 bytes. -/
import Derived.Test.YtlicnadbccjbjaaDoorMfits
import Derived.WalkSpells
namespace Go.Proofs.YtlicnadbccjbjaaDoor
open Go.RowKit LB

theorem val_take {l : List Lab} {k : Nat} {x : Lab} {n : ByteArray} (hx : l[k]? = some x) : valL (l.take (k + 1)) n = (match valL (l.take k) n with | some u => some u | none => if x.1 = n then some x.2 else none) := by
  obtain ⟨hk, he⟩ := List.getElem?_eq_some_iff.1 hx
  rw [List.take_succ_eq_append_getElem hk, he]
  generalize l.take k = p
  induction p with
  | nil => rfl
  | cons a r ih =>
    rw [List.cons_append, valL, valL]
    split
    · rfl
    · exact ih
/-- What two slots hold of what has been found. -/
def VH (o : Option ByteArray) (v h : Value) : Prop := match o with | none => v = .string ⟨#[]⟩ ∧ h = .bool false | some u => v = .string u ∧ h = .bool true
theorem prefix_long {v p : ByteArray} (h : ¬ p.size ≤ v.size) : Lib.hasPrefix v.data.toList p.data.toList = false := by
  unfold Lib.hasPrefix
  cases hp : (p.data.toList.isPrefixOf v.data.toList) with
  | false => rfl
  | true =>
    have := (List.isPrefixOf_iff_prefix.1 hp).length_le
    simp at this; omega
theorem prefix_cut {v p : ByteArray} (h : p.size ≤ v.size) : ((v.extract 0 p.size).toList == p.toList) = Lib.hasPrefix v.data.toList p.data.toList := by
  have e : (v.extract 0 p.size).toList = v.data.toList.take p.data.toList.length := by
    rw [ByteArray.toList_eq]
    simp
  rw [e, ByteArray.toList_eq]
  unfold Lib.hasPrefix
  rw [Bool.eq_iff_iff, beq_iff_eq, List.isPrefixOf_iff_prefix, List.prefix_iff_eq_take]
  exact eq_comm
end Go.Proofs.YtlicnadbccjbjaaDoor
