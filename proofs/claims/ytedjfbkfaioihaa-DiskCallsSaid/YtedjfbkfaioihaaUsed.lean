/- How many bytes a disk's files have. Conditions: at most 10^9. -/
import Derived.Test.YtedjfbkfaioihaaSdir
import Derived.Maps.RangeWalk
namespace Go.Proofs.Ytedjfbkfaioihaa
open Go.RowKit Go.Shelf Go.Maps

/-- The files that have been met. -/
def metS (fs : List Fl) (left : Lit → Bool) (L : List En) : Nat := usedL fs (L.filter fun e => !left (.string e.nm))
theorem used_cons (fs : List Fl) (e : En) (L : List En) : usedL fs (e :: L) = (fl fs e.f).b.length + usedL fs L := by unfold usedL; simp
theorem met_start (fs : List Fl) (F : Nat → Nat) (L : List En) : metS fs (Maps.has (dat F L)) L = 0 := by
  unfold metS
  have : (L.filter fun e => !Maps.has (dat F L) (.string e.nm)) = [] := by
    rw [List.filter_eq_nil_iff]
    intro e he
    have h : hasp e.nm L = true := by unfold hasp; rw [List.any_eq_true]; exact ⟨e, he, by simp⟩
    rw [dat_has, h]
    decide
  rw [this]
  rfl
theorem met_end (fs : List Fl) {left : Lit → Bool} (h : ∀ kl, left kl = false) (L : List En) : metS fs left L = usedL fs L := by
  unfold metS
  congr 1
  rw [List.filter_eq_self]
  intro e _
  rw [h]; rfl
theorem met_le (fs : List Fl) (left : Lit → Bool) (L : List En) : metS fs left L ≤ usedL fs L := by
  unfold metS
  induction L with
  | nil => simp
  | cons a r ih =>
    rw [List.filter_cons, used_cons]
    split
    · rw [used_cons]; omega
    · omega
theorem sum_more {L : List En} {e : En} (f : En → Nat) (p p' : En → Bool) (hn : L.Pairwise fun x y => x.nm ≠ y.nm) (he : e ∈ L) (h0 : p e = false) (h1 : p' e = true) (h : ∀ x ∈ L, x.nm ≠ e.nm → p' x = p x) :
    ((L.filter p').map f).sum = ((L.filter p).map f).sum + f e := by
  induction L with
  | nil => cases he
  | cons a r ih =>
    obtain ⟨n1, n2⟩ := List.pairwise_cons.1 hn
    rcases List.mem_cons.1 he with hea | he
    · subst hea
      have hrest : r.filter p' = r.filter p := List.filter_congr fun x hx => h x (List.mem_cons_of_mem _ hx) (fun e2 => n1 x hx e2.symm)
      rw [List.filter_cons_of_pos h1, List.filter_cons_of_neg (by rw [h0]; decide), hrest, List.map_cons, List.sum_cons]
      omega
    · have := ih n2 he (fun x hx => h x (List.mem_cons_of_mem _ hx))
      have hpa := h a (List.mem_cons_self ..) (n1 e he)
      cases hc : p a with
      | true =>
        rw [List.filter_cons_of_pos (by rw [hpa, hc]), List.filter_cons_of_pos hc, List.map_cons, List.sum_cons, List.map_cons, List.sum_cons, this]
        omega
      | false =>
        rw [List.filter_cons_of_neg (by rw [hpa, hc]; decide), List.filter_cons_of_neg (by rw [hc]; decide), this]
theorem met_step (fs : List Fl) {left : Lit → Bool} {L : List En} (hr : Ris L) {e : En} (he : e ∈ L) (hl : left (.string e.nm) = true) :
    metS fs (fun z => left z && !z.sameKey (.string e.nm)) L = metS fs left L + (fl fs e.f).b.length := by
  unfold metS usedL
  refine sum_more (fun e => (fl fs e.f).b.length) _ _ (ris_nodup hr) he ?_ ?_ ?_
  · simp [hl]
  · have : (Lit.string e.nm).sameKey (.string e.nm) = (e.nm == e.nm) := rfl
    simp [this]
  · intro x hx hne
    have : (Lit.string x.nm).sameKey (.string e.nm) = (x.nm == e.nm) := rfl
    have h2 : (x.nm == e.nm) = false := by simpa using hne
    simp [this, h2]

theorem entry_of {F : Nat → Nat} {L : List En} {s : ByteArray} {c : Value} {y : DataW Unit × List MemPlace} (hv : plr c = some y) (hat : ∀ zd, (dat F L).atKey (.string s.data.toList) zd = y.1) : ∃ e ∈ L, e.nm = s.data.toList ∧ c = plv (F e.f) := by
  have h1 := hat (.lit (.int .i64 0))
  have h2 := hat (.lit (.int .i64 1))
  rw [dat_at] at h1 h2
  cases hf : L.find? (fun q => q.nm == s.data.toList) with
  | none =>
    rw [hf] at h1 h2
    simp only at h1 h2
    rw [← h1] at h2
    simp at h2
  | some e =>
    rw [hf] at h1
    refine ⟨e, List.mem_of_find?_eq_some hf, by simpa using List.find?_some hf, ?_⟩
    obtain ⟨y1, y2⟩ := y
    simp only at h1
    rw [← h1] at hv
    exact plr_inv hv

set_option maxRecDepth 100000 in
set_option maxHeartbeats 2000000 in
theorem used50 (D : Nat) (st : Ds) (φ : Nat → Prop) (w : World) (h : DK w φ D st) (hu : usedL st.fs st.dir ≤ 1000000000) :
    Calls Try.prog 50 #[.pointer (some ⟨D, 0, none⟩)] w fun e w' => e = .returned (.int .i64 (usedL st.fs st.dir : Nat)) ∧ Below w.heap.size w w' := by
  obtain ⟨hφ, bn, bs, vp, Q, hk⟩ := h
  have c1 : w.cell? ⟨D, 1, none⟩ = some (.map (some bn)) := hk.d.at_ rfl
  have hown := hk.now.m
  have hbn := hk.now.lt
  have law : Keyed Try.prog 9 := string_keyed Try.underlying9
  go_enter Try.func50, Try.ntmps50
  go_wp2_with (at_range; refine wpList_range_own _ rfl _ 61 rfl 9 68 law Try.underlying61 _ bn _ _ rfl hown ?_; intro w0 hrg0 hg0 hs0)
  go_frame
  go_loopw [3, 5] (fun n _ wr => ∃ (left : Lit → Bool) (cnt : Nat), wr.ranges Try.prog 9 plr bn w.heap.size st.dir.length (dat (Fq Q) st.dir) left cnt ∧ Below w.heap.size w wr ∧ n = .int .i64 (metS st.fs left st.dir : Nat)) (fun _ _ wr => wr.rangeLeft bn w.heap.size)
  case atStart => exact ⟨_, _, hrg0, (Below.refl _ w).grown hg0 (Nat.le_refl _) (fun k hk => by cases hk), by rw [met_start]; rfl⟩
  case round =>
    obtain ⟨left, cnt, hrg, hb, rfl⟩ := hrel
    have hle := met_le st.fs left st.dir
    go_wp2_with (at_next; refine wpList_next_ranges _ rfl _ rfl 9 law plr Value.string id (fun key kl hkey => by obtain ⟨s, rfl, _⟩ := Go.WideMaps.string_of_keyOf Try.underlying9 hkey; exact ⟨s, rfl⟩) (fun v y _ => ⟨v, rfl⟩) bn w.heap.size st.dir.length _ _ _ rfl hrg ?_ ?_)
    · intro _ hl0
      have HE := Lib.hid (met_end st.fs hl0 st.dir)
      go_wp2_with fail
      go_ret
      exact ⟨by rw [← HE.out]; rfl, hb⟩
    · intro x c kl y1 y2 w1 cnt1 hkx hlx hvy hat hrg1 hlt hg1 hs1 hen
      obtain ⟨s0, hs0', rfl, _⟩ := Go.WideMaps.string_of_keyOf Try.underlying9 hkx
      obtain rfl : x = s0 := by injection hs0'
      obtain ⟨e, he, hnm, hce⟩ := entry_of hvy hat
      have hcd : c = plv (Fq Q e.f) := hce
      subst hcd
      have hb1 : Below w.heap.size w w1 := hb.grown hg1 hb.size (fun k hk => by injection hk with hk; omega)
      have hstep := met_step st.fs hk.inv.risd he (by rw [hnm]; exact hlx)
      rw [hnm] at hstep
      have hle1 := met_le st.fs (fun z => left z && !z.sameKey (.string x.data.toList)) st.dir
      have hQ := hk.fs.len
      have hj := (hk.inv.dir e he).1
      have hfx : st.fs[e.f]? = some (fl st.fs e.f) := by unfold fl; rw [List.getD_eq_getElem?_getD, List.getElem?_eq_getElem hj]; rfl
      have hqx : Q[e.f]? = some (Q[e.f]'(by omega)) := List.getElem?_eq_getElem _
      have hat2 := hk.fs.at_ e.f _ _ hqx hfx
      have hFq : Fq Q e.f = (Q[e.f]'(by omega)).1 := by unfold Fq; rw [List.getD_eq_getElem?_getD, hqx]; rfl
      obtain ⟨A, cc, hqs, _, hlc, _⟩ := hat2.b.form
      have g0 : w1.cell? ⟨Fq Q e.f, 0, none⟩ = some (.slice A (fl st.fs e.f).b.length cc) := by
        rw [hFq, ← hqs]
        exact (hat2.a.below hb1 hat2.a.lt).at_ rfl
      obtain ⟨fx, hfxe⟩ : ∃ fx, fx = Fq Q e.f := ⟨_, rfl⟩
      obtain ⟨ln, hln⟩ : ∃ ln, ln = (fl st.fs e.f).b.length := ⟨_, rfl⟩
      obtain ⟨m0, hm0⟩ : ∃ m0, m0 = metS st.fs left st.dir := ⟨_, rfl⟩
      have hen' : (Instr.entry (.pointer (some ⟨w.heap.size, 0, none⟩))).run Try.prog w1 = .ok (.tuple #[.string x, .pointer (some ⟨fx, 0, none⟩)]) w1 := by rw [hfxe]; exact hen
      rw [← hfxe, ← hln] at g0
      rw [← hm0, ← hln] at hstep
      rw [← hm0] at hle ⊢
      have HST := Lib.hid hstep
      have hsum : m0 + ln ≤ 1000000000 := by omega
      have HX := Lib.hid (And.intro hrg1 hb1)
      have HL := Lib.hid (And.intro hlt (And.intro hrg1.left_eq hrg.left_eq))
      clear hstep hen hfxe hln hm0 hqs hat2 hqx hfx hj hQ hle1 hb1 hrg1 hg1 hs1 hat hvy hkx hs0' hFq hlc hnm he hb hrg hlt hle
      go_wp2_with fail
      go_roundw
      case rel => exact ⟨_, cnt1, HX.out.1, HX.out.2, by rw [HST.out]; go_num⟩
      case measure => rw [HL.out.2.1, HL.out.2.2]; exact HL.out.1
end Go.Proofs.Ytedjfbkfaioihaa
