/- A crash, plainly: act by act, name by name; what holds of the disk behind it. And: the sorted names; an act's call. Conditions: at most 10^6 names and acts. -/
import Derived.Test.YtedjfbkfaioihaaKept2
namespace Go.Proofs.Ytedjfbkfaioihaa
open Go.RowKit Go.Shelf Go.Maps Go.Sort

theorem crashA_snoc (keep : List Int) (b : Ac) : ∀ (a : List Ac) (i : Nat) (L : List En), crashA keep i (a ++ [b]) L = (if odd (pick keep (i + a.length)) = true then actD b (crashA keep i a L) else crashA keep i a L)
  | [], i, L => by simp [crashA]
  | x :: a, i, L => by
    show crashA keep (i + 1) (a ++ [b]) _ = _
    rw [crashA_snoc keep b a (i + 1), show i + 1 + a.length = i + (x :: a).length by simp; omega]
    rfl
theorem crashA_step {keep : List Int} {acts : List Ac} {L : List En} {j : Nat} {a : Ac} (h : acts[j]? = some a) : crashA keep 0 (acts.take (j + 1)) L = (if odd (pick keep j) = true then actD a (crashA keep 0 (acts.take j) L) else crashA keep 0 (acts.take j) L) := by
  have hj := (List.getElem?_eq_some_iff.1 h).1
  rw [List.take_add_one, h]
  show crashA keep 0 (acts.take j ++ [a]) L = _
  rw [crashA_snoc, List.length_take, Nat.min_eq_left (by omega), Nat.zero_add]
theorem insp_len (p : En) : ∀ L : List En, (insp p L).length = L.length + 1 := length_insp p
theorem actD_len (a : Ac) (L : List En) : (actD a L).length ≤ L.length + 1 := by
  have hd : ∀ n, (delp n L).length ≤ L.length := fun n => List.length_filter_le _ _
  unfold actD
  split
  · unfold putp; rw [insp_len]; have := hd (⟨a.n, a.f⟩ : En).nm; omega
  · split
    · omega
    · unfold putp; rw [insp_len]
      have h1 := hd a.n.data.toList
      have h2 := List.length_filter_le (fun q : En => !(q.nm == (⟨a.m, ‹Nat›⟩ : En).nm)) (delp a.n.data.toList L)
      unfold delp at h1 h2 ⊢
      omega
  · have := hd a.n.data.toList; omega
theorem crashA_len (keep : List Int) : ∀ (acts : List Ac) (i : Nat) (L : List En), (crashA keep i acts L).length ≤ L.length + acts.length
  | [], i, L => Nat.le_refl _
  | a :: r, i, L => by
    have h1 := crashA_len keep r (i + 1) (if odd (pick keep i) = true then actD a L else L)
    have h2 := actD_len a L
    show (crashA keep (i + 1) r (if odd (pick keep i) = true then actD a L else L)).length ≤ _
    rw [List.length_cons]
    have h3 : (if odd (pick keep i) = true then actD a L else L).length ≤ L.length + 1 := by split <;> omega
    omega
/-- What holds while the acts are done. -/
structure CI (n : Nat) (L : List En) (rest : List Ac) : Prop where
  f : ∀ e ∈ L, e.f < n ∧ e.n.size ≤ 60
  ris : Ris L
  nd : (L.map En.f ++ (rest.filter fun a => a.k == 0).map Ac.f).Nodup
  acts : ∀ a ∈ rest, a.n.size ≤ 60 ∧ a.m.size ≤ 60 ∧ a.k ≤ 2 ∧ (a.k = 0 → a.f < n)
theorem CI.skip {n : Nat} {L : List En} {a : Ac} {r : List Ac} (h : CI n L (a :: r)) : CI n L r := by
  refine ⟨h.f, h.ris, h.nd.sublist ?_, fun b hb => h.acts b (List.mem_cons_of_mem _ hb)⟩
  exact List.Sublist.append_left (((List.sublist_cons_self a r).filter _).map _) _
theorem CI.act {n : Nat} {L : List En} {a : Ac} {r : List Ac} (h : CI n L (a :: r)) : CI n (actD a L) r := by
  have ha := h.acts a (List.mem_cons_self ..)
  have hsub : ∀ {M : List En}, List.Sublist M L → CI n M r := fun {M} hM =>
    ⟨fun e he => h.f e (hM.subset he), h.ris.sublist hM, (h.skip.nd).sublist ((hM.map En.f).append_right _), h.skip.acts⟩
  by_cases h0 : a.k = 0
  · have e : actD a L = putp ⟨a.n, a.f⟩ L := by unfold actD; rw [h0]; rfl
    rw [e]
    have hnd := h.nd
    rw [List.filter_cons, if_pos (by simpa using h0), List.map_cons] at hnd
    have hp := (insp_perm ⟨a.n, a.f⟩ (delp (⟨a.n, a.f⟩ : En).nm L)).map En.f
    refine ⟨fun e he => ?_, ris_put h.ris _, ?_, h.skip.acts⟩
    · rcases mem_put_or he with rfl | he
      · exact ⟨ha.2.2.2 h0, ha.1⟩
      · exact h.f e he
    · have h1 : (a.f :: (L.map En.f ++ (r.filter fun a => a.k == 0).map Ac.f)).Nodup := (List.perm_middle.nodup_iff).1 hnd
      unfold putp
      rw [(hp.append_right _).nodup_iff, List.map_cons, List.cons_append]
      refine h1.sublist (List.Sublist.cons_cons _ ?_)
      exact (((List.filter_sublist).map En.f).append_right _)
  · by_cases h1 : a.k = 1
    · cases hf : fnd a.n.data.toList L with
      | none =>
        have e : actD a L = L := by unfold actD; rw [h1]; simp only [hf]
        rw [e]; exact h.skip
      | some j =>
        have e : actD a L = putp ⟨a.m, j⟩ (delp a.n.data.toList L) := by unfold actD; rw [h1]; simp only [hf]
        rw [e]
        obtain ⟨_, e0, he0, hn0, hf0⟩ := fnd_some hf
        have hd := hsub (M := delp a.n.data.toList L) List.filter_sublist
        have hjn : j ∉ (delp a.n.data.toList L).map En.f := by
          intro hm
          obtain ⟨x, hx, hxf⟩ := List.mem_map.1 hm
          have hx' := List.mem_filter.1 hx
          have hone : (L.map En.f).Nodup := h.nd.sublist (List.sublist_append_left _ _)
          have := one_name hone hx'.1 he0 (hxf.trans hf0.symm)
          subst this
          have h2 := hx'.2
          simp [hn0] at h2
        have hjr : j ∉ (r.filter fun a => a.k == 0).map Ac.f := by
          intro hm
          have hdis := (List.nodup_append.1 h.skip.nd).2.2
          exact hdis j (by rw [← hf0]; exact List.mem_map.2 ⟨e0, he0, rfl⟩) j hm rfl
        have hp := (insp_perm ⟨a.m, j⟩ (delp (⟨a.m, j⟩ : En).nm (delp a.n.data.toList L))).map En.f
        refine ⟨fun x hx => ?_, ris_put (ris_del h.ris _) _, ?_, h.skip.acts⟩
        · rcases mem_put_or hx with rfl | hx
          · exact ⟨by show j < n; rw [← hf0]; exact (h.f e0 he0).1, ha.2.1⟩
          · exact h.f x (List.mem_filter.1 hx).1
        · unfold putp
          rw [(hp.append_right _).nodup_iff, List.map_cons, List.cons_append, List.nodup_cons]
          refine ⟨?_, hd.nd.sublist (((List.filter_sublist).map En.f).append_right _)⟩
          intro hm
          rcases List.mem_append.1 hm with hm | hm
          · exact hjn (((List.filter_sublist).map En.f).subset hm)
          · exact hjr hm
    · have e : actD a L = delp a.n.data.toList L := by
        have h2 : a.k = 2 := by have := ha.2.2.1; omega
        unfold actD; rw [h2]; rfl
      rw [e]
      exact hsub List.filter_sublist
theorem CI.all {n : Nat} (keep : List Int) : ∀ {acts : List Ac} {i : Nat} {L : List En}, CI n L acts → CI n (crashA keep i acts L) []
  | [], _, _, h => h
  | a :: r, i, L, h => by
    show CI n (crashA keep (i + 1) r _) []
    refine CI.all keep ?_
    split
    · exact h.act
    · exact h.skip
theorem ci_of {st : Ds} (h : Inv st) : CI st.fs.length st.sure st.acts := ⟨h.sure, h.riss, h.ones, h.acts⟩
/-- Behind the acts. -/
def crash1 (st : Ds) (keep : List Int) : Ds := { st with sure := crashA keep 0 st.acts st.sure, dir := crashA keep 0 st.acts st.sure, acts := [] }
theorem inv_crash1 {st : Ds} (h : Inv st) (keep : List Int) : Inv (crash1 st keep) := by
  have hc := (ci_of h).all keep (i := 0)
  have hn : ((crashA keep 0 st.acts st.sure).map En.f).Nodup := by have := hc.nd; simpa using this
  exact ⟨hc.f, hc.f, fun a ha => by (cases ha), hc.ris, hc.ris, hn, by (show ((crashA keep 0 st.acts st.sure).map En.f ++ []).Nodup; simpa using hn), h.fs, h.quota, h.fuse, h.fault, h.steps⟩

/-- One file of a crash. -/
def crash1F (keep : List Int) (p : Nat × List Fl) (e : En) : Nat × List Fl :=
  if (fl p.2 e.f).s < (fl p.2 e.f).b.length then (p.1 + 2, p.2.set e.f ⟨keptL (fl p.2 e.f) (pick keep p.1) (odd (pick keep (p.1 + 1))), (keptL (fl p.2 e.f) (pick keep p.1) (odd (pick keep (p.1 + 1)))).length⟩) else p
theorem crashF_fold (keep : List Int) : ∀ (L : List En) (i : Nat) (fs : List Fl), crashF keep i L fs = (L.foldl (crash1F keep) (i, fs)).2
  | [], _, _ => rfl
  | e :: r, i, fs => by
    unfold crashF
    rw [List.foldl_cons]
    unfold crash1F
    split
    · exact crashF_fold keep r _ _
    · exact crashF_fold keep r _ _
/-- When j files are looked at. -/
def crashT (keep : List Int) (L : List En) (i : Nat) (fs : List Fl) (j : Nat) : Nat × List Fl := (L.take j).foldl (crash1F keep) (i, fs)
theorem crashT_step {keep : List Int} {L : List En} {i : Nat} {fs : List Fl} {j : Nat} {e : En} (h : L[j]? = some e) : crashT keep L i fs (j + 1) = crash1F keep (crashT keep L i fs j) e := by
  unfold crashT
  rw [List.take_add_one, h, List.foldl_append]
  rfl
theorem crashT_end (keep : List Int) (L : List En) (i : Nat) (fs : List Fl) : (crashT keep L i fs L.length).2 = crashF keep i L fs := by
  unfold crashT; rw [List.take_length, crashF_fold]
theorem odd_bit (x : Int) : (bits .and .i64 x 1 != 0) = odd x := by
  have h : bits .and .i64 x 1 = (((x % 18446744073709551616).toNat % 2 : Nat) : Int) := by
    show IntKind.i64.wrap ((BitVec.ofInt 64 x &&& BitVec.ofInt 64 1).toNat : Int) = _
    have h1 : (BitVec.ofInt 64 x).toNat = (x % 18446744073709551616).toNat := by rw [BitVec.toNat_ofInt]; rfl
    rw [BitVec.toNat_and, h1, show (BitVec.ofInt 64 1).toNat = 1 from by decide, Nat.and_one_is_mod, IntKind.wrap_i64]
    omega
  rw [h]
  unfold odd
  by_cases h2 : x % 2 = 0
  · have : (((x % 18446744073709551616).toNat % 2 : Nat) : Int) = 0 := by omega
    rw [this]; simp [h2]
  · have : (((x % 18446744073709551616).toNat % 2 : Nat) : Int) = 1 := by omega
    rw [this]; simp [h2]
theorem pick_head (keep : List Int) (i : Nat) : (keep.drop i).headD 0 = pick keep i := by
  unfold pick
  rw [List.getD_eq_getElem?_getD, ← List.head?_drop]
  cases keep.drop i <;> rfl
theorem pick_tail (keep : List Int) (i : Nat) : (keep.drop i).tail = keep.drop (i + 1) := by rw [List.tail_drop]

/-! ### the sorted names -/
theorem sortsA (m : Nat) : AnyZ.SortsIn Try.prog Try.sortedA_ren Fence.wide m :=
  ⟨fun blk off cap ss W hH hblk hsz => callsIn_wide.2 (AnyM.slices_Sort_string Try.sortA blk off cap ss W hH hblk hsz),
   fun p cap W => callsIn_wide.2 (AnyM.slices_Sort_string_none Try.sortA p cap W)⟩
theorem keys61 (mb : Option Nat) (W : World) : Calls Try.prog 61 #[.map mb] W fun e w' => e = .returned (.func (.func 87) #[] #[.pointer (some ⟨W.heap.size, 0, none⟩)]) ∧ w' = W.alloc (.cells #[.map mb] 61) :=
  callsIn_wide.1 (AnyZ.keys_in Try.keysA Fence.wide 9 trivial rfl mb W)
theorem sorted60 (b : Nat) (F : Nat → Nat) (L : List En) (W : World) (hown : W.ownsMap Try.prog 9 plr b L.length (dat F L)) (hr : Ris L) (hL : L.length ≤ 1000000) :
    Calls Try.prog 60 #[.func (.func 87) #[] #[.pointer (some ⟨W.heap.size, 0, none⟩)]] (W.alloc (.cells #[.map (some b)] 61)) fun e w' => ∃ v : Value, e = .returned v ∧
      w'.ownsRow (W.heap.size + 1) 9 1 v L.length (L.map fun p => .string p.n) ∧ Below W.heap.size W w' := by
  have hbl := hown.lt
  have hseq : SeqGives Fence.wide (9 - 1 - 1 - 1) Try.prog 87 #[.pointer (some ⟨W.heap.size, 0, none⟩)] encStr (fun ss => ss.Perm (strKeys (dat F L))) (Maps.size (dat F L)) (W.alloc (.cells #[.map (some b)] 61)) :=
    AnyZ.keys_gives (ρ := Try.keysA_ren) { Try.keysA with } Fence.wide _ trivial rfl (by omega) W.heap.size b L.length (dat F L) _ (by simp) (by simp) (own_heap hown (Below.heap_alloc _ _ b hbl))
  have cS := AnyZ.sorted_in Try.sortedA Fence.wide 9 trivial trivial trivial trivial rfl (by omega) (sortsA _) (enters_of Try.func86 (by kernel_rfl) rfl) 87 #[.pointer (some ⟨W.heap.size, 0, none⟩)] trivial (enters_of Try.func87 (by kernel_rfl) rfl) _ _ (by rw [dat_size]; unfold maxLen; omega) (by rw [dat_size]; omega) _ hseq
  change CallsIn _ _ Try.prog 60 _ _ _ at cS
  refine callsIn_wide.1 (cS.mono ?_)
  rintro e w' ⟨v, ss, rfl, hp, hrow, _, hb⟩
  have hlen : ss.length = L.length := by have := hp.length_eq; rw [strKeys_dat, List.length_map] at this; exact this
  have hsz : (W.alloc (.cells #[.map (some b)] 61)).heap.size = W.heap.size + 1 := by simp
  rw [sorted_keys hr hp, hlen, List.map_map, hsz] at hrow
  have e2 : (encStr ∘ En.nm) = fun p : En => Value.string p.n := funext fun p => encStr_nm p
  rw [e2] at hrow
  exact ⟨v, rfl, hrow, ((Below.refl _ W).alloc (Nat.le_refl _) _).trans (hb.mono (by simp))⟩
/-- An act as a function. -/
theorem act_fn {w : World} {φ : Nat → Prop} {F : Nat → Nat} {v : Value} {a : Ac} (h : AAt w φ F v a) (hs : a.n.size ≤ 60 ∧ a.m.size ≤ 60) : ∃ (fid : Nat) (caps : Array Value), v = .func (.func fid) #[] caps ∧ (∀ (args : Array Value) (w : World), (callFunc fid args).run Try.prog w = .ok (.enter fid args) w) ∧
    ∀ (W : World) (ψ : Nat → Prop) (b : Nat) (L : List En), AAt W φ F v a → Mp W ψ b F L → L.length ≤ 1000000 → Calls Try.prog fid (#[.map (some b)] ++ caps) W (ActPost W ψ b F (actD a L)) := by
  rcases h with ⟨h0, p, q, rfl, _⟩ | ⟨h0, p, q, rfl, _⟩ | ⟨h0, p, rfl, _⟩
  · refine ⟨82, _, rfl, Try.enters82, fun W ψ b L hA hm hL => ?_⟩
    rcases hA with ⟨_, p', q', e, _, _, h4, h5⟩ | ⟨h1, _⟩ | ⟨h1, _⟩
    · injection e with _ _ e
      simp at e
      obtain ⟨rfl, rfl⟩ := e
      have e : actD a L = putp ⟨a.n, a.f⟩ L := by unfold actD; rw [h0]; rfl
      rw [e]
      exact given82 b p q ψ F L a.n a.f W hm h4 h5 (by omega) hL
    · omega
    · omega
  · refine ⟨88, _, rfl, Try.enters88, fun W ψ b L hA hm hL => ?_⟩
    rcases hA with ⟨h1, _⟩ | ⟨_, p', q', e, _, _, h4, h5⟩ | ⟨h1, _⟩
    · omega
    · injection e with _ _ e
      simp at e
      obtain ⟨rfl, rfl⟩ := e
      exact moved88 b p q ψ F L a h0 W hm h4 h5 (by omega) (by omega) hL
    · omega
  · refine ⟨83, _, rfl, Try.enters83, fun W ψ b L hA hm hL => ?_⟩
    rcases hA with ⟨h1, _⟩ | ⟨h1, _⟩ | ⟨_, p', e, _, h4⟩
    · omega
    · omega
    · injection e with _ _ e
      simp at e
      subst e
      have e : actD a L = delp a.n.data.toList L := by unfold actD; rw [h0]; rfl
      rw [e]
      exact taken83 b p ψ F L a.n W hm h4 (by omega)
end Go.Proofs.Ytedjfbkfaioihaa
