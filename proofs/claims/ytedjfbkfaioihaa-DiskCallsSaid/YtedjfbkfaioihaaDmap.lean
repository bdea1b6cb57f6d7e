/- A directory as a map's datum: rising lists of names, a file's number with each; what put and delete make of them, and the order in which sorted keys come. No conditions. -/
import Derived.Maps.OwnIn
import Derived.Maps.OwnSet
import Derived.Sort.KeysCollected
import Derived.WideAt
namespace Go.Proofs.Ytedjfbkfaioihaa
open Go.RowKit Go.Maps

/-- A name of a directory, and which file it has. -/
structure En where
  n : ByteArray
  f : Nat

/-- A name's bytes. -/
def En.nm (p : En) : List UInt8 := p.n.data.toList
/-- A file as a datum: its block. -/
def fld (x : Nat) : DataW Unit := .lit (.int .i64 (x : Int))
/-- How a map's element reads. -/
def plr (v : Value) : Option (DataW Unit × List MemPlace) :=
  match v with
  | .pointer (some ⟨x, 0, none⟩) => some (fld x, [])
  | .pointer none => some (.lit (.int .i64 (-1)), [])
  | _ => none
def plv (x : Nat) : Value := .pointer (some ⟨x, 0, none⟩)
theorem plr_plv (x : Nat) : plr (plv x) = some (fld x, []) := rfl
theorem plr_zero : plr (.pointer none) = some (.lit (.int .i64 (-1)), []) := rfl
theorem fld_inj {x y : Nat} (h : fld x = fld y) : x = y := by simp [fld] at h; omega
/-- What reads as a file is a pointer to it. -/
theorem plr_inv {v : Value} {x : Nat} {ps : List MemPlace} (h : plr v = some (fld x, ps)) : v = plv x := by
  unfold plr at h
  split at h
  · simp only [Option.some.injEq, Prod.mk.injEq] at h
    rw [fld_inj h.1]; rfl
  · simp [fld] at h
  · cases h
theorem plr_none {v : Value} {ps : List MemPlace} (h : plr v = some (.lit (.int .i64 (-1)), ps)) : v = .pointer none := by
  unfold plr at h
  split at h
  · simp [fld] at h
  · rfl
  · cases h
theorem plr_any {v : Value} {y : DataW Unit × List MemPlace} (h : plr v = some y) : (∃ x, v = plv x ∧ y = (fld x, [])) ∨ (v = .pointer none ∧ y = (.lit (.int .i64 (-1)), [])) := by
  unfold plr at h
  split at h
  · cases h; exact .inl ⟨_, rfl, rfl⟩
  · cases h; exact .inr ⟨rfl, rfl⟩
  · cases h

theorem bb_lt : ∀ a b : List UInt8, bytesBefore a b = decide (a < b)
  | [], [] => by simp [bytesBefore]
  | [], _ :: _ => by simp [bytesBefore]
  | _ :: _, [] => by simp [bytesBefore]
  | x :: r, y :: s => by
    rw [bytesBefore, bb_lt r s]
    by_cases h : x = y
    · subst h; simp
    · by_cases h2 : x < y <;> simp [h, h2, List.cons_lt_cons_iff]

/-- By rising names. -/
def Ris (L : List En) : Prop := L.Pairwise fun p q => bytesBefore p.nm q.nm = true

/-- A name laid in. -/
def insp (p : En) : List En → List En
  | [] => [p]
  | q :: r => if bytesBefore p.nm q.nm then p :: q :: r else q :: insp p r
/-- A name struck. -/
def delp (n : List UInt8) (L : List En) : List En := L.filter fun q => !(q.nm == n)
/-- A name put. -/
def putp (p : En) (L : List En) : List En := insp p (delp p.nm L)

/-- The list as a map's datum. -/
def dat (F : Nat → Nat) (L : List En) : DataW Unit := .map (L.map fun p => (Lit.string p.nm, fld (F p.f)))

theorem insert_dat (F : Nat → Nat) (p : En) : ∀ L : List En, DataW.insert (Lit.string p.nm, fld (F p.f)) (L.map fun p => (Lit.string p.nm, fld (F p.f))) = (insp p L).map fun p => (Lit.string p.nm, fld (F p.f))
  | [] => rfl
  | q :: r => by
    unfold insp
    rw [List.map_cons, DataW.insert]
    show (if bytesBefore p.nm q.nm = true then _ else _) = _
    by_cases h : bytesBefore p.nm q.nm = true
    · rw [if_pos h, if_pos h]; rfl
    · rw [if_neg h, if_neg h, insert_dat F p r]; rfl

theorem filter_dat (F : Nat → Nat) (n : List UInt8) (L : List En) : (L.map fun p => (Lit.string p.nm, fld (F p.f))).filter (fun p => !p.1.sameKey (.string n)) = (delp n L).map fun p => (Lit.string p.nm, fld (F p.f)) := by
  unfold delp
  rw [List.filter_map]
  rfl

theorem dat_put (F : Nat → Nat) (p : En) (L : List En) : (dat F L).put (.string p.nm) (fld (F p.f)) = dat F (putp p L) := by
  unfold dat DataW.put putp
  simp only [filter_dat, insert_dat]

theorem dat_del (F : Nat → Nat) (n : List UInt8) (L : List En) : (dat F L).del (.string n) = dat F (delp n L) := by
  unfold dat DataW.del
  simp only [filter_dat]

/-- Is the name there? -/
def hasp (n : List UInt8) (L : List En) : Bool := L.any fun q => q.nm == n

theorem dat_has (F : Nat → Nat) (n : List UInt8) (L : List En) : Maps.has (dat F L) (.string n) = hasp n L := by
  unfold dat hasp
  rw [Maps.has_eq, List.any_map]
  rfl

theorem dat_size (F : Nat → Nat) (L : List En) : Maps.size (dat F L) = L.length := by
  unfold dat
  rw [Maps.size_eq, List.length_map]

theorem dat_at (F : Nat → Nat) (n : List UInt8) (L : List En) (z : DataW Unit) : (dat F L).atKey (.string n) z = match L.find? (fun q => q.nm == n) with | some p => fld (F p.f) | none => z := by
  unfold dat DataW.atKey
  simp only [List.find?_map]
  have e : ((fun p : Lit × DataW Unit => p.1.sameKey (.string n)) ∘ fun p : En => (Lit.string p.nm, fld (F p.f))) = fun q => q.nm == n := rfl
  rw [e]
  cases L.find? (fun q => q.nm == n) <;> rfl

theorem strKeys_dat (F : Nat → Nat) (L : List En) : strKeys (dat F L) = L.map En.nm := by
  unfold dat strKeys
  simp only [List.map_map]
  rfl

theorem ris_nil : Ris [] := List.Pairwise.nil
theorem ris_del {L : List En} (h : Ris L) (n : List UInt8) : Ris (delp n L) := h.filter _

theorem mem_insp {p : En} : ∀ {L : List En} {q : En}, q ∈ insp p L ↔ q = p ∨ q ∈ L
  | [], q => by simp [insp]
  | a :: r, q => by
    unfold insp
    split
    · simp
    · simp only [List.mem_cons, mem_insp (L := r)]
      constructor
      · rintro (h | h | h) <;> simp [h]
      · rintro (h | h | h) <;> simp [h]

theorem ris_insp {p : En} : ∀ {L : List En}, Ris L → (∀ q ∈ L, q.nm ≠ p.nm) → Ris (insp p L)
  | [], _, _ => by simp [insp, Ris]
  | a :: r, h, hn => by
    obtain ⟨h1, h2⟩ := List.pairwise_cons.1 h
    unfold insp
    split
    · rename_i hb
      refine List.pairwise_cons.2 ⟨fun q hq => ?_, h⟩
      rcases List.mem_cons.1 hq with rfl | hq
      · exact hb
      · exact WideShapes.bytes_trans _ _ _ hb (h1 q hq)
    · rename_i hb
      refine List.pairwise_cons.2 ⟨fun q hq => ?_, ris_insp h2 (fun q hq => hn q (List.mem_cons_of_mem _ hq))⟩
      rcases mem_insp.1 hq with rfl | hq
      · rcases WideAt.bytes_total q.nm a.nm (fun e => hn a (List.mem_cons_self ..) e.symm) with h3 | h3
        · exact absurd h3 hb
        · exact h3
      · exact h1 q hq

theorem ris_put {L : List En} (h : Ris L) (p : En) : Ris (putp p L) :=
  ris_insp (ris_del h _) (fun q hq => by simpa [delp] using (List.mem_filter.1 hq).2)

theorem length_insp (p : En) : ∀ L : List En, (insp p L).length = L.length + 1
  | [] => rfl
  | a :: r => by
    unfold insp
    split
    · rfl
    · simp [length_insp p r]

theorem ris_nodup {L : List En} (h : Ris L) : L.Pairwise fun p q => p.nm ≠ q.nm :=
  h.imp (fun {p q} hb e => by rw [e, WideAt.bytes_irrefl] at hb; cases hb)

theorem delp_id {n : List UInt8} {L : List En} (h : hasp n L = false) : delp n L = L := by
  unfold delp hasp at *
  rw [List.filter_eq_self]
  intro q hq
  rw [List.any_eq_false] at h
  simpa using h q hq

theorem length_del {n : List UInt8} : ∀ {L : List En}, Ris L → hasp n L = true → (delp n L).length + 1 = L.length
  | [], _, h => by simp [hasp] at h
  | a :: r, h, hh => by
    obtain ⟨h1, h2⟩ := List.pairwise_cons.1 (ris_nodup h)
    have h3 : Ris r := (List.pairwise_cons.1 h).2
    by_cases ha : a.nm = n
    · have hr : hasp n r = false := by
        unfold hasp
        rw [List.any_eq_false]
        intro q hq
        have := h1 q hq
        simp only [beq_iff_eq]
        exact fun e => this (ha.trans e.symm)
      have := delp_id hr
      unfold delp at this ⊢
      rw [List.filter_cons]
      simp [ha, this]
    · have hr : hasp n r = true := by
        unfold hasp at hh ⊢
        simpa [ha] using hh
      have := length_del h3 hr
      unfold delp at this ⊢
      rw [List.filter_cons]
      simp [ha]
      omega

theorem length_put_new {p : En} {L : List En} (h : hasp p.nm L = false) : (putp p L).length = L.length + 1 := by
  unfold putp; rw [delp_id h, length_insp]
theorem length_put_old {p : En} {L : List En} (hr : Ris L) (h : hasp p.nm L = true) : (putp p L).length = L.length := by
  unfold putp; rw [length_insp]; exact length_del hr h

theorem mem_put {p q : En} {L : List En} : q ∈ putp p L ↔ q = p ∨ (q ∈ L ∧ q.nm ≠ p.nm) := by
  unfold putp delp
  rw [mem_insp, List.mem_filter]
  simp

/-- Sorted keys are the list's names. -/
theorem sorted_keys {F : Nat → Nat} {L : List En} (h : Ris L) {ss : List (List UInt8)} (hp : ss.Perm (strKeys (dat F L))) : ss.mergeSort (fun x y => decide (x ≤ y)) = L.map En.nm := by
  rw [strKeys_dat] at hp
  show ss.mergeSort leB = _
  rw [mergeSort_of_perm hp]
  refine List.mergeSort_of_pairwise ?_
  rw [List.pairwise_map]
  refine h.imp ?_
  intro p q hb
  rw [bb_lt, decide_eq_true_eq] at hb
  simp only [leB, decide_eq_true_eq]
  exact List.le_of_lt hb

theorem find_at {L : List En} (h : Ris L) {p : En} (hp : p ∈ L) : L.find? (fun q => q.nm == p.nm) = some p := by
  have h1 := ris_nodup h
  clear h
  induction L with
  | nil => cases hp
  | cons a r ih =>
    obtain ⟨h2, h3⟩ := List.pairwise_cons.1 h1
    rw [List.find?_cons]
    rcases List.mem_cons.1 hp with rfl | hp
    · simp
    · have : (a.nm == p.nm) = false := by simpa using h2 p hp
      rw [this]
      exact ih hp h3

theorem encStr_nm (p : En) : encStr p.nm = .string p.n := by
  obtain ⟨⟨⟨n⟩⟩, f⟩ := p
  rfl
end Go.Proofs.Ytedjfbkfaioihaa
