/- A table of plans as a map's datum: rising lists of plans, what put and delete make of them, and the order in which sorted keys come. No conditions. -/
import Derived.Maps.OwnIn
import Derived.Maps.OwnSet
import Derived.Sort.KeysCollected
import Derived.WideAt
namespace Go.Proofs.Ytghklmhmhekjgaa
open Go.RowKit Go.Maps

/-- A plan. -/
structure Pl where
  n : ByteArray
  f : Int
  t : Int
  r : Int

/-- A name's bytes. -/
def Pl.nm (p : Pl) : List UInt8 := p.n.data.toList
/-- A plan as a value. -/
def plv (p : Pl) : Value := .agg #[.string p.n, .int .i64 p.f, .int .i64 p.t, .int .i64 p.r]
/-- A plan as a datum. -/
def pld (p : Pl) : DataW Unit := .agg [.lit (.string p.nm), .lit (.int .i64 p.f), .lit (.int .i64 p.t), .lit (.int .i64 p.r)]
/-- How a map's element reads. -/
def plr (v : Value) : Option (DataW Unit × List MemPlace) :=
  match v with
  | .agg cs => match cs.toList with
    | [.string n, .int .i64 f, .int .i64 t, .int .i64 r] => some (pld ⟨n, f, t, r⟩, [])
    | _ => none
  | _ => none

theorem plr_plv (p : Pl) : plr (plv p) = some (pld p, []) := rfl

theorem plr_inv {v : Value} {z : DataW Unit × List MemPlace} (h : plr v = some z) : ∃ p, v = plv p ∧ z = (pld p, []) := by
  unfold plr at h
  split at h
  · rename_i cs
    split at h
    · rename_i n f t r he
      cases h
      refine ⟨⟨n, f, t, r⟩, ?_, rfl⟩
      unfold plv
      rw [show cs = cs.toList.toArray by simp, he]
    · cases h
  · cases h

theorem pld_inj {p q : Pl} (h : pld p = pld q) : p = q := by
  obtain ⟨⟨⟨n⟩⟩, f, t, r⟩ := p
  obtain ⟨⟨⟨n'⟩⟩, f', t', r'⟩ := q
  simp [pld, Pl.nm] at h
  obtain ⟨rfl, rfl, rfl, rfl⟩ := h
  rfl

theorem bb_lt : ∀ a b : List UInt8, bytesBefore a b = decide (a < b)
  | [], [] => by simp [bytesBefore]
  | [], _ :: _ => by simp [bytesBefore]
  | _ :: _, [] => by simp [bytesBefore]
  | x :: r, y :: s => by
    rw [bytesBefore, bb_lt r s]
    by_cases h : x = y
    · subst h; simp
    · by_cases h2 : x < y <;> simp [h, h2, List.cons_lt_cons_iff]

/-- By rising names. -/
def Ris (L : List Pl) : Prop := L.Pairwise fun p q => bytesBefore p.nm q.nm = true

/-- A plan laid in. -/
def insp (p : Pl) : List Pl → List Pl
  | [] => [p]
  | q :: r => if bytesBefore p.nm q.nm then p :: q :: r else q :: insp p r
/-- A name struck. -/
def delp (n : List UInt8) (L : List Pl) : List Pl := L.filter fun q => !(q.nm == n)
/-- A plan put. -/
def putp (p : Pl) (L : List Pl) : List Pl := insp p (delp p.nm L)

/-- The list as a map's datum. -/
def dat (L : List Pl) : DataW Unit := .map (L.map fun p => (Lit.string p.nm, pld p))

theorem insert_dat (p : Pl) : ∀ L : List Pl, DataW.insert (Lit.string p.nm, pld p) (L.map fun p => (Lit.string p.nm, pld p)) = (insp p L).map fun p => (Lit.string p.nm, pld p)
  | [] => rfl
  | q :: r => by
    unfold insp
    rw [List.map_cons, DataW.insert]
    show (if bytesBefore p.nm q.nm = true then _ else _) = _
    by_cases h : bytesBefore p.nm q.nm = true
    · rw [if_pos h, if_pos h]; rfl
    · rw [if_neg h, if_neg h, insert_dat p r]; rfl

theorem filter_dat (n : List UInt8) (L : List Pl) : (L.map fun p => (Lit.string p.nm, pld p)).filter (fun p => !p.1.sameKey (.string n)) = (delp n L).map fun p => (Lit.string p.nm, pld p) := by
  unfold delp
  rw [List.filter_map]
  rfl

theorem dat_put (p : Pl) (L : List Pl) : (dat L).put (.string p.nm) (pld p) = dat (putp p L) := by
  unfold dat DataW.put putp
  simp only [filter_dat, insert_dat]

theorem dat_del (n : List UInt8) (L : List Pl) : (dat L).del (.string n) = dat (delp n L) := by
  unfold dat DataW.del
  simp only [filter_dat]

/-- Is the name there? -/
def hasp (n : List UInt8) (L : List Pl) : Bool := L.any fun q => q.nm == n

theorem dat_has (n : List UInt8) (L : List Pl) : Maps.has (dat L) (.string n) = hasp n L := by
  unfold dat hasp
  rw [Maps.has_eq, List.any_map]
  rfl

theorem dat_size (L : List Pl) : Maps.size (dat L) = L.length := by
  unfold dat
  rw [Maps.size_eq, List.length_map]

theorem dat_at (n : List UInt8) (L : List Pl) (z : DataW Unit) : (dat L).atKey (.string n) z = match L.find? (fun q => q.nm == n) with | some p => pld p | none => z := by
  unfold dat DataW.atKey
  simp only [List.find?_map]
  have e : ((fun p : Lit × DataW Unit => p.1.sameKey (.string n)) ∘ fun p : Pl => (Lit.string p.nm, pld p)) = fun q => q.nm == n := rfl
  rw [e]
  cases L.find? (fun q => q.nm == n) <;> rfl

theorem strKeys_dat (L : List Pl) : strKeys (dat L) = L.map Pl.nm := by
  unfold dat strKeys
  simp only [List.map_map]
  rfl

theorem ris_nil : Ris [] := List.Pairwise.nil
theorem ris_del {L : List Pl} (h : Ris L) (n : List UInt8) : Ris (delp n L) := h.filter _

theorem mem_insp {p : Pl} : ∀ {L : List Pl} {q : Pl}, q ∈ insp p L ↔ q = p ∨ q ∈ L
  | [], q => by simp [insp]
  | a :: r, q => by
    unfold insp
    split
    · simp
    · simp only [List.mem_cons, mem_insp (L := r)]
      constructor
      · rintro (h | h | h) <;> simp [h]
      · rintro (h | h | h) <;> simp [h]

theorem ris_insp {p : Pl} : ∀ {L : List Pl}, Ris L → (∀ q ∈ L, q.nm ≠ p.nm) → Ris (insp p L)
  | [], _, _ => by simp [insp, Ris]
  | a :: r, h, hn => by
    obtain ⟨h1, h2⟩ := List.pairwise_cons.1 h
    unfold insp
    split
    · rename_i hb
      refine List.pairwise_cons.2 ⟨fun q hq => ?_, h⟩
      rcases List.mem_cons.1 hq with rfl | hq
      · exact hb
      · exact WideShapes.bytes_trans _ _ _ hb (h1 q hq)
    · rename_i hb
      refine List.pairwise_cons.2 ⟨fun q hq => ?_, ris_insp h2 (fun q hq => hn q (List.mem_cons_of_mem _ hq))⟩
      rcases mem_insp.1 hq with rfl | hq
      · rcases WideAt.bytes_total q.nm a.nm (fun e => hn a (List.mem_cons_self ..) e.symm) with h3 | h3
        · exact absurd h3 hb
        · exact h3
      · exact h1 q hq

theorem ris_put {L : List Pl} (h : Ris L) (p : Pl) : Ris (putp p L) :=
  ris_insp (ris_del h _) (fun q hq => by simpa [delp] using (List.mem_filter.1 hq).2)

theorem length_insp (p : Pl) : ∀ L : List Pl, (insp p L).length = L.length + 1
  | [] => rfl
  | a :: r => by
    unfold insp
    split
    · rfl
    · simp [length_insp p r]

theorem ris_nodup {L : List Pl} (h : Ris L) : L.Pairwise fun p q => p.nm ≠ q.nm :=
  h.imp (fun {p q} hb e => by rw [e, WideAt.bytes_irrefl] at hb; cases hb)

theorem delp_id {n : List UInt8} {L : List Pl} (h : hasp n L = false) : delp n L = L := by
  unfold delp hasp at *
  rw [List.filter_eq_self]
  intro q hq
  rw [List.any_eq_false] at h
  simpa using h q hq

theorem length_del {n : List UInt8} : ∀ {L : List Pl}, Ris L → hasp n L = true → (delp n L).length + 1 = L.length
  | [], _, h => by simp [hasp] at h
  | a :: r, h, hh => by
    obtain ⟨h1, h2⟩ := List.pairwise_cons.1 (ris_nodup h)
    have h3 : Ris r := (List.pairwise_cons.1 h).2
    by_cases ha : a.nm = n
    · have hr : hasp n r = false := by
        unfold hasp
        rw [List.any_eq_false]
        intro q hq
        have := h1 q hq
        simp only [beq_iff_eq]
        exact fun e => this (ha.trans e.symm)
      have := delp_id hr
      unfold delp at this ⊢
      rw [List.filter_cons]
      simp [ha, this]
    · have hr : hasp n r = true := by
        unfold hasp at hh ⊢
        simpa [ha] using hh
      have := length_del h3 hr
      unfold delp at this ⊢
      rw [List.filter_cons]
      simp [ha]
      omega

theorem length_put_new {p : Pl} {L : List Pl} (h : hasp p.nm L = false) : (putp p L).length = L.length + 1 := by
  unfold putp; rw [delp_id h, length_insp]
theorem length_put_old {p : Pl} {L : List Pl} (hr : Ris L) (h : hasp p.nm L = true) : (putp p L).length = L.length := by
  unfold putp; rw [length_insp]; exact length_del hr h

theorem mem_put {p q : Pl} {L : List Pl} : q ∈ putp p L ↔ q = p ∨ (q ∈ L ∧ q.nm ≠ p.nm) := by
  unfold putp delp
  rw [mem_insp, List.mem_filter]
  simp

/-- Sorted keys are the list's names. -/
theorem sorted_keys {L : List Pl} (h : Ris L) {ss : List (List UInt8)} (hp : ss.Perm (strKeys (dat L))) : ss.mergeSort (fun x y => decide (x ≤ y)) = L.map Pl.nm := by
  rw [strKeys_dat] at hp
  show ss.mergeSort leB = _
  rw [mergeSort_of_perm hp]
  refine List.mergeSort_of_pairwise ?_
  rw [List.pairwise_map]
  refine h.imp ?_
  intro p q hb
  rw [bb_lt, decide_eq_true_eq] at hb
  simp only [leB, decide_eq_true_eq]
  exact List.le_of_lt hb

theorem find_at {L : List Pl} (h : Ris L) {p : Pl} (hp : p ∈ L) : L.find? (fun q => q.nm == p.nm) = some p := by
  have h1 := ris_nodup h
  clear h
  induction L with
  | nil => cases hp
  | cons a r ih =>
    obtain ⟨h2, h3⟩ := List.pairwise_cons.1 h1
    rw [List.find?_cons]
    rcases List.mem_cons.1 hp with rfl | hp
    · simp
    · have : (a.nm == p.nm) = false := by simpa using h2 p hp
      rw [this]
      exact ih hp h3

theorem encStr_nm (p : Pl) : encStr p.nm = .string p.n := by
  obtain ⟨⟨⟨n⟩⟩, f, t, r⟩ := p
  rfl
end Go.Proofs.Ytghklmhmhekjgaa
