/- A table of plans in memory; that a new one has none. No conditions. -/
import Derived.Test.YtghklmhmhekjgaaCheck
import Derived.StringKeys
namespace Go.Proofs.Ytghklmhmhekjgaa
open Go.RowKit Go.Maps

/-- The plan of a name; none: the empty one. -/
def getp (n : List UInt8) (L : List Pl) : Pl := (L.find? fun q => q.nm == n).getD ⟨⟨#[]⟩, 0, 0, 0⟩
theorem dat_get (n : List UInt8) (L : List Pl) : (dat L).atKey (.string n) (pld ⟨⟨#[]⟩, 0, 0, 0⟩) = pld (getp n L) := by
  rw [dat_at]
  unfold getp
  cases L.find? (fun q => q.nm == n) <;> rfl
theorem get_at {L : List Pl} (h : Ris L) {p : Pl} (hp : p ∈ L) : getp p.nm L = p := by unfold getp; rw [find_at h hp]; rfl

/-- T is a table whose map in block b has just the plans L. -/
structure Tb (w : World) (T b : Nat) (L : List Pl) : Prop where
  t : Arr w T 56 #[.map (some b)]
  m : w.ownsMap Try.prog 9 plr b L.length (dat L)
  ris : Ris L

section
variable {w w' : World} {T b : Nat} {L : List Pl} {S : Nat → Prop}
theorem own_heap {b n : Nat} {D : DataW Unit} (h : w.ownsMap Try.prog 9 plr b n D) (e : w'.heap[b]? = w.heap[b]?) : w'.ownsMap Try.prog 9 plr b n D := by
  obtain ⟨es, clock, hb, r⟩ := h
  exact ⟨es, clock, e.trans hb, r⟩
theorem own_tight {b n : Nat} {L : List Pl} (h : w.ownsMap Try.prog 9 plr b n (dat L)) : w.ownsMap Try.prog 9 plr b L.length (dat L) := by
  obtain ⟨es, clock, hb, F, _, hD⟩ := h
  refine ⟨es, clock, hb, F, ?_, hD⟩
  have h1 : Maps.size (dat L) = es.size := by rw [hD, Maps.size_eq, length_sorted]; simp
  rw [dat_size] at h1
  omega
theorem Tb.lt (h : Tb w T b L) : T < w.heap.size ∧ b < w.heap.size := ⟨h.t.lt, h.m.lt⟩
theorem Tb.ne (h : Tb w T b L) : T ≠ b := by
  rintro rfl
  obtain ⟨es, clock, hb, _⟩ := h.m
  have := h.t
  unfold Arr at this
  rw [this] at hb
  cases hb
theorem Tb.keep (h : Tb w T b L) (h1 : w'.heap[T]? = w.heap[T]?) (h2 : w'.heap[b]? = w.heap[b]?) : Tb w' T b L :=
  ⟨h1.trans h.t, own_heap h.m h2, h.ris⟩
theorem Tb.below {B : Nat} (h : Tb w T b L) (k : Below B w w') (h1 : T < B) (h2 : b < B) : Tb w' T b L := h.keep (k.block T h1) (k.block b h2)
theorem Tb.kp (h : Tb w T b L) (k : Kp S w w') (h1 : ¬ S T) (h2 : ¬ S b) : Tb w' T b L := h.keep (k.block T h.lt.1 h1) (k.block b h.lt.2 h2)
theorem Tb.cell (h : Tb w T b L) : w.cell? ⟨T, 0, none⟩ = some (.map (some b)) := h.t.at_ rfl
end

theorem key_str (s : ByteArray) (hs : s.size ≤ maxLen) : keyOf Try.prog 9 (.string s) = some (.string s.data.toList) := Go.WideMaps.keyOf_string_mk Try.underlying9 hs
theorem plr_zero : plr (.agg #[.string ⟨#[]⟩, .int .i64 0, .int .i64 0, .int .i64 0]) = some (pld ⟨⟨#[]⟩, 0, 0, 0⟩, []) := rfl

/-- 'v, ok := m[k]'. -/
theorem look_ok2 {w : World} {b n : Nat} {L : List Pl} (h : w.ownsMap Try.prog 9 plr b n (dat L)) (s : ByteArray) (hs : s.size ≤ maxLen) :
    (Instr.lookup 54 (.map (some b)) (.string s) true).run Try.prog w = .ok (.tuple #[plv (getp s.data.toList L), .bool (hasp s.data.toList L)]) w := by
  obtain ⟨v, ps, hrun, hv⟩ := h.look_ok (string_keyed Try.underlying9) Try.underlying54 (Try.zeroValue27 w) plr_zero (key_str s hs)
  obtain ⟨p, rfl, hz⟩ := plr_inv hv
  rw [dat_get] at hz
  simp only [Prod.mk.injEq] at hz
  rw [← pld_inj hz.1, dat_has] at hrun
  exact hrun

/-- 'm[k]'. -/
theorem look_2 {w : World} {b n : Nat} {L : List Pl} (h : w.ownsMap Try.prog 9 plr b n (dat L)) (s : ByteArray) (hs : s.size ≤ maxLen) :
    (Instr.lookup 54 (.map (some b)) (.string s) false).run Try.prog w = .ok (plv (getp s.data.toList L)) w := by
  obtain ⟨v, ps, hrun, hv⟩ := h.lookup (string_keyed Try.underlying9) Try.underlying54 (Try.zeroValue27 w) plr_zero (key_str s hs)
  obtain ⟨p, rfl, hz⟩ := plr_inv hv
  rw [dat_get] at hz
  simp only [Prod.mk.injEq] at hz
  rw [← pld_inj hz.1] at hrun
  exact hrun

set_option maxRecDepth 100000 in
set_option maxHeartbeats 1000000 in
theorem new8 (w : World) : Calls Try.prog 8 #[] w fun e w' => e = .returned (.pointer (some ⟨w.heap.size + 1, 0, none⟩)) ∧ Tb w' (w.heap.size + 1) w.heap.size [] ∧ Below w.heap.size w w' := by
  have hmm := @run_makeMap Try.prog
  go_enter Try.func8, Try.ntmps8
  go_wp2_with fail
  go_ret
  have hm := World.ownsMap_made w Try.prog 9 plr
  refine ⟨by simp, ⟨?_, ?_, ris_nil⟩, ((Below.refl _ _).alloc (Nat.le_refl _) _).alloc (by simp) _⟩
  · have := Arr.new (w.alloc (.map #[] 0)) 56 #[.map (some w.heap.size)]
    simpa using this
  · exact own_heap hm (Below.heap_alloc _ _ _ (by simp))

set_option maxHeartbeats 1000000 in
theorem num11 (c : Int) (w : World) : Calls Try.prog 11 #[.int .i64 c] w fun e w' => e = .returned (.int .i64 c) ∧ w' = w := by
  go_enter Try.func11, Try.ntmps11
  go_wp2_with fail
  go_ret
  exact ⟨rfl, rfl⟩
end Go.Proofs.Ytghklmhmhekjgaa
