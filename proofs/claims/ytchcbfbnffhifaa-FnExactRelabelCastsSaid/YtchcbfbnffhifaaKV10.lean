/- Texts of the proof, one behind another. -/
import Derived.Laws.Strings
import Derived.Test.YtchcbfbnffhifaaKV7
import Derived.Test.YtchcbfbnffhifaaKV9
set_option linter.unusedSimpArgs false
set_option linter.unusedVariables false
/- Owned trees: handed back by a function; grown by one. -/
namespace Go.Proofs.Sh
open Go.RowKit

/-- every block of an owned tree, with what lies in it -/
theorem fzL_each {Q : Nat → Prop} {f : C → Option (C × List Nat)} {ks : List Nat} (hf : ∀ c c' i, f c = some (c', i) → (∀ b ∈ i, b ∈ ks) → ∀ b ∈ i, Q b) : ∀ {cs cs' ids}, fzL f cs = some (cs', ids) → (∀ b ∈ ids, b ∈ ks) → ∀ b ∈ ids, Q b
  | [], cs', ids, e, _ => by simp only [fzL, Option.some.injEq, Prod.mk.injEq] at e; rw [← e.2]; simp
  | c :: cs, cs', ids, e, hk => by
    simp only [fzL] at e
    split at e
    · rename_i c1 i c2 j h1 h2
      simp only [Option.some.injEq, Prod.mk.injEq] at e
      obtain ⟨rfl, rfl⟩ := e
      intro b hb
      rcases List.mem_append.1 hb with hb | hb
      · exact hf _ _ _ h1 (fun b hb => hk b (by simp [hb])) b hb
      · exact fzL_each hf h2 (fun b hb => hk b (by simp [hb])) b hb
    · cases e
theorem fzRows_each {Q : Nat → Prop} {f : C → Option (C × List Nat)} {ks : List Nat} (hf : ∀ c c' i, f c = some (c', i) → (∀ b ∈ i, b ∈ ks) → ∀ b ∈ i, Q b) : ∀ {cs cs' ids}, fzRows f cs = some (cs', ids) → (∀ b ∈ ids, b ∈ ks) → ∀ b ∈ ids, Q b
  | [], cs', ids, e, _ => by simp only [fzRows, Option.some.injEq, Prod.mk.injEq] at e; rw [← e.2]; simp
  | c :: cs, cs', ids, e, hk => by
    simp only [fzRows] at e
    split at e
    · rename_i c1 i c2 j h1 h2
      simp only [Option.some.injEq, Prod.mk.injEq] at e
      obtain ⟨rfl, rfl⟩ := e
      intro b hb
      rcases List.mem_append.1 hb with hb | hb
      · exact fzL_each hf h1 (fun b hb => hk b (by simp [hb])) b hb
      · exact fzRows_each hf h2 (fun b hb => hk b (by simp [hb])) b hb
    · cases e
def Holds (h : List Blk) (ks : List Nat) (b : Nat) : Prop := ∃ k d R js, h[b]? = some k ∧ k.st.isMut = true ∧ fzRows (ow h d) k.rows = some (R, js) ∧ ∀ x ∈ js, x ∈ ks
theorem ow_each {h : List Blk} {ks : List Nat} : ∀ {d : Nat} {c c' : C} {ids : List Nat}, ow h d c = some (c', ids) → (∀ b ∈ ids, b ∈ ks) → ∀ b ∈ ids, Holds h ks b := by
  intro d
  induction d with
  | zero =>
    intro c c' ids e _ b hb
    cases c with
    | row s b n => obtain ⟨d', k, R, js, he, _⟩ := ow_row e; cases he
    | _ => rw [ow_leaf (by simp)] at e; rw [leaf_ids e] at hb; simp at hb
  | succ d ih =>
    intro c c' ids e hk b hb
    cases c with
    | row s b' n =>
      obtain ⟨d', k, R, js, he, h1, h2, h3, h4, h5, h6, rfl, rfl⟩ := ow_row e
      cases he
      have hj : ∀ b ∈ js, b ∈ ks := fun b hb => hk b (by simp [hb])
      rcases List.mem_cons.1 hb with rfl | hb
      · exact ⟨k, d, R, js, h1, h2, h6, hj⟩
      · exact fzRows_each (ks := ks) (fun _ _ _ e => ih e) h6 hj b hb
    | _ => rw [ow_leaf (by simp)] at e; rw [leaf_ids e] at hb; simp at hb
theorem owL_each {h : List Blk} {d : Nat} {cs cs' : List C} {ids : List Nat} (e : fzL (ow h d) cs = some (cs', ids)) : ∀ b ∈ ids, Holds h ids b := fzL_each (ks := ids) (fun _ _ _ e => ow_each e) e (fun _ h => h)

/-- the place of a block in a list -/
def posD (ks : List Nat) (b : Nat) : Nat := (pos b ks).getD 0
theorem pos_mem {b : Nat} : ∀ {l : List Nat}, b ∈ l → ∃ i, pos b l = some i
  | [], h => by simp at h
  | x :: l, h => by
    simp only [pos]
    split
    · exact ⟨0, rfl⟩
    · rename_i hx
      rcases List.mem_cons.1 h with h | h
      · exact absurd h.symm hx
      · obtain ⟨i, hi⟩ := pos_mem h
        exact ⟨i + 1, by rw [hi]⟩
theorem posD_get {ks : List Nat} {b : Nat} (h : b ∈ ks) : pos b ks = some (posD ks b) ∧ ks[posD ks b]? = some b := by
  obtain ⟨i, hi⟩ := pos_mem h
  have : posD ks b = i := by simp [posD, hi]
  exact ⟨by rw [this]; exact hi, by rw [this]; exact pos_spec hi⟩
theorem prC_ow {h : List Blk} {ks : List Nat} {d : Nat} {c c' : C} {ids : List Nat} (e : ow h d c = some (c', ids)) (hk : ∀ b ∈ ids, b ∈ ks) : prC false h ks c = some (c.ren (posD ks), []) := by
  cases c with
  | row s b n =>
    obtain ⟨d', k, R, js, he, h1, h2, h3, h4, h5, h6, rfl, rfl⟩ := ow_row e
    simp only [prC, (posD_get (hk b (by simp))).1, C.ren]
  | _ =>
    rw [ow_leaf (by simp)] at e
    first
      | (obtain ⟨rfl, ⟨h1, h2⟩ | ⟨v, h1, hv, h2⟩ | ⟨h1, h2⟩⟩ := leaf_cases e <;> first | (cases h1; done) | (cases h1; rfl))
theorem prCs_ow {h : List Blk} {ks : List Nat} {d : Nat} : ∀ {cs cs' : List C} {ids : List Nat}, fzL (ow h d) cs = some (cs', ids) → (∀ b ∈ ids, b ∈ ks) → prCs false h ks cs = some (cs.map (C.ren (posD ks)), [])
  | [], _, _, _, _ => rfl
  | c :: cs, cs', ids, e, hk => by
    simp only [fzL] at e
    split at e
    · rename_i c1 i c2 j h1 h2
      simp only [Option.some.injEq, Prod.mk.injEq] at e
      obtain ⟨rfl, rfl⟩ := e
      simp only [prCs, prC_ow h1 (fun b hb => hk b (by simp [hb])), prCs_ow h2 (fun b hb => hk b (by simp [hb])), List.map_cons, List.append_nil]
    · cases e
theorem prL_ow {h : List Blk} {ks : List Nat} {d : Nat} {cs cs' : List C} {ids : List Nat} (e : fzL (ow h d) cs = some (cs', ids)) (hk : ∀ b ∈ ids, b ∈ ks) : prL false h ks cs = some (cs.map (C.ren (posD ks)), []) := by
  unfold prL
  split
  · rename_i ht; rw [← renA_map]; unfold renA; rw [if_pos ht]
  · exact prCs_ow e hk
theorem prRs_ow {h : List Blk} {ks : List Nat} {d : Nat} : ∀ {cs cs' : List (List C)} {ids : List Nat}, fzRows (ow h d) cs = some (cs', ids) → (∀ b ∈ ids, b ∈ ks) → prRs h ks cs = some (cs.map (List.map (C.ren (posD ks))), [])
  | [], _, _, _, _ => rfl
  | c :: cs, cs', ids, e, hk => by
    simp only [fzRows] at e
    split at e
    · rename_i c1 i c2 j h1 h2
      simp only [Option.some.injEq, Prod.mk.injEq] at e
      obtain ⟨rfl, rfl⟩ := e
      simp only [prRs, prL_ow h1 (fun b hb => hk b (by simp [hb])), prRs_ow h2 (fun b hb => hk b (by simp [hb])), List.map_cons, List.append_nil]
    · cases e
theorem prR_ow {h : List Blk} {ks : List Nat} {d : Nat} {cs cs' : List (List C)} {ids : List Nat} (e : fzRows (ow h d) cs = some (cs', ids)) (hk : ∀ b ∈ ids, b ∈ ks) : prR h ks cs = some (renRows (posD ks) cs, []) := by
  unfold prR
  split
  · rename_i ht; unfold renRows; rw [if_pos ht]
  · rw [renRows_map]; exact prRs_ow e hk
theorem prH_ow {h : List Blk} {ks : List Nat} : ∀ {l : List Nat}, (∀ b ∈ l, Holds h ks b) → ∃ K, prH h ks l = some (K, []) ∧ K.length = l.length ∧ ∀ (i b : Nat), l[i]? = some b → ∃ k, h[b]? = some k ∧ k.st.isMut = true ∧ K[i]? = some (k.ren (posD ks))
  | [], _ => ⟨[], rfl, rfl, by simp⟩
  | b :: l, hh => by
    obtain ⟨K, h1, h2, h3⟩ := prH_ow (l := l) (fun b hb => hh b (by simp [hb]))
    obtain ⟨k, d, R, js, e1, e2, e3, e4⟩ := hh b (by simp)
    refine ⟨k.ren (posD ks) :: K, ?_, by simp [h2], fun i b' hi => ?_⟩
    · simp only [prH, e1, known_of_mut e2, if_true, prR_ow e3 e4, h1, List.append_nil, Blk.ren]
    · cases i with
      | zero => simp at hi; subst hi; exact ⟨k, e1, e2, rfl⟩
      | succ i => exact h3 i b' (by simpa using hi)

theorem nodupB_of : ∀ {l : List Nat}, l.Nodup → nodupB l = true
  | [], _ => rfl
  | x :: l, h => by
    obtain ⟨h1, h2⟩ := List.nodup_cons.1 h
    simp [nodupB, h1, nodupB_of h2]

theorem nodup_map {f : Nat → Nat} : ∀ {l : List Nat}, (∀ x ∈ l, ∀ y ∈ l, f x = f y → x = y) → l.Nodup → (l.map f).Nodup
  | [], _, _ => List.nodup_nil
  | x :: l, hf, h => by
    obtain ⟨h1, h2⟩ := List.nodup_cons.1 h
    refine List.nodup_cons.2 ⟨fun hm => ?_, nodup_map (fun a ha b hb => hf a (by simp [ha]) b (by simp [hb])) h2⟩
    obtain ⟨y, hy, e⟩ := List.mem_map.1 hm
    have := hf y (by simp [hy]) x (by simp) e
    subst this
    exact h1 hy

/-- a result that is an owned tree: enc the tree, F what stands about its cells -/
def OwnK (enc : List C) (F : List C → AV) (r : AV) (H' : List Blk) : Prop := ∃ cs d ids, r = F cs ∧ fzL (ow H' d) cs = some (enc, ids) ∧ ids.Nodup ∧ ∀ b, b < H'.length → b ∈ ids

theorem own_ret {h : List Blk} {d : Nat} {cs enc : List C} {ids : List Nat} {F : List C → AV} (e : fzL (ow h d) cs = some (enc, ids)) (hn : ids.Nodup) (hF : ∀ cs', prL false h ids cs = some (cs', []) → prVs false h ids [F cs] = some ([F cs'], [])) :
    ∃ r' H' h1, prep false h ids [F cs] = some ([r'], H', h1) ∧ OwnK enc F r' H' := by
  obtain ⟨K, k1, k2, k3⟩ := prH_ow (l := ids) (owL_each e)
  have hp := prL_ow e (fun _ h => h)
  have hv : prVs false h ids [F cs] = some ([F (cs.map (C.ren (posD ids)))], []) := hF _ hp
  refine ⟨F (cs.map (C.ren (posD ids))), K, frzAt [] h, ?_, _, d, ids.map (posD ids), rfl, owL_ren e (fun b hb k hk => ?_), ?_, fun b hb => ?_⟩
  · simp only [prep, hv, k1, apart, List.append_nil, List.all_nil, nodupB_of hn, and_self, if_true]
  · obtain ⟨_, h2⟩ := posD_get hb
    obtain ⟨k', e1, e2, e3⟩ := k3 _ b h2
    rw [hk] at e1; cases e1
    exact e3
  · refine nodup_map (fun x hx y hy he => ?_) hn
    have h1 := (posD_get hx).2
    have h2 := (posD_get hy).2
    rw [he, h2] at h1
    cases h1; rfl
  · rw [k2] at hb
    refine List.mem_map.2 ⟨ids[b], List.getElem_mem hb, ?_⟩
    have hx := (posD_get (List.getElem_mem hb)).2
    obtain ⟨hi, hv⟩ := List.getElem?_eq_some_iff.1 hx
    have hpw := List.pairwise_iff_getElem.1 hn
    rcases Nat.lt_trichotomy (posD ids ids[b]) b with hlt | heq | hgt
    · exact absurd hv (hpw _ _ hi hb hlt)
    · exact heq
    · exact absurd hv.symm (hpw _ _ hb hi hgt)

theorem ow_flat {h : List Blk} {d : Nat} {c c' : C} {ids : List Nat} (e : ow h d c = some (c', ids)) : c.flat = true := by
  cases c with
  | row s b n => rfl
  | _ =>
    rw [ow_leaf (by simp)] at e
    obtain ⟨rfl, ⟨h1, h2⟩ | ⟨v, h1, hv, h2⟩ | ⟨h1, h2⟩⟩ := leaf_cases e <;> first | (cases h1; done) | (cases h1; rfl)
theorem owL_flat {h : List Blk} {d : Nat} : ∀ {cs cs' : List C} {ids : List Nat}, fzL (ow h d) cs = some (cs', ids) → cs.all C.flat = true
  | [], _, _, _ => rfl
  | c :: cs, cs', ids, e => by
    simp only [fzL] at e
    split at e
    · rename_i c1 i c2 j h1 h2
      simp only [List.all_cons, ow_flat h1, owL_flat h2, Bool.true_and]
    · cases e
theorem owR_flat {h : List Blk} {d : Nat} : ∀ {cs cs' : List (List C)} {ids : List Nat}, fzRows (ow h d) cs = some (cs', ids) → cs.all (fun r => r.all C.flat) = true
  | [], _, _, _ => rfl
  | c :: cs, cs', ids, e => by
    simp only [fzRows] at e
    split at e
    · rename_i c1 i c2 j h1 h2
      simp only [List.all_cons, owL_flat h1, owR_flat h2, Bool.true_and]
    · cases e
theorem OwnK.flat {enc : List C} {F : List C → AV} {r : AV} {H' : List Blk} (hF : ∀ cs, cs.all C.flat = true → (F cs).flat = true) (h : OwnK enc F r H') : r.flat = true ∧ H'.all Blk.flat = true := by
  obtain ⟨cs, d, ids, rfl, e, _, hc⟩ := h
  refine ⟨hF cs (owL_flat e), List.all_eq_true.2 fun k hk => ?_⟩
  obtain ⟨b, hb⟩ := List.getElem?_of_mem hk
  obtain ⟨k', d', R, js, e1, e2, e3, _⟩ := owL_each e b (hc b (List.getElem?_eq_some_iff.1 hb).1)
  rw [hb] at e1; cases e1
  simp only [Blk.flat, e2, owR_flat e3, Bool.and_self]

/-- what a call leaves that yields an owned tree: h the own blocks ahead -/
def Owned (h : List Blk) (enc : List C) (F : List C → AV) (r : AV) (h' : List Blk) : Prop := ∃ cs d ids, r = F cs ∧ fzL (ow h' d) cs = some (enc, ids) ∧ ids.Nodup ∧ (∀ b ∈ ids, h.length ≤ b ∧ b < h'.length) ∧ h.length ≤ h'.length ∧ ∀ b, b < h.length → h'[b]? = h[b]?
theorem acalls_own {P : Program} {f : FuncId} {args args' : List AV} {h : List Blk} {ids : List Nat} {enc : List C} {F : List C → AV} (hz : Lents h args args' ids) (hc : ACl P f args' [] (OwnK enc F)) (hF : ∀ cs, cs.all C.flat = true → (F cs).flat = true) (hR : ∀ cs g, (F cs).ren g = F (cs.map (C.ren g))) : ACalls P f args h [] (Owned h enc F) := by
  refine (acalls_lend hz hc (fun r H' h => h.flat hF)).mono fun r h' ⟨r0, H', ⟨cs, d, ids, e1, e2, e3, e4⟩, e5, e6⟩ => ?_
  subst e1 e5 e6
  refine ⟨_, d, ids.map (back h.length []), hR _ _, owL_ren e2 (fun b _ k hk => ?_), ?_, fun b hb => ?_, by simp, fun b hb => List.getElem?_append_left hb⟩
  · rw [back_nil, List.getElem?_append_right (by omega), Nat.add_sub_cancel_left, List.getElem?_map, hk]; rfl
  · exact nodup_map (fun x _ y _ hxy => by simpa [back_nil] using hxy) e3
  · obtain ⟨x, hx, rfl⟩ := List.mem_map.1 hb
    have := (owL_mut e2 x hx).lt
    rw [back_nil]
    simp only [List.length_append, List.length_map]
    omega

/-! ### an append -/
theorem own_grow0 {h : List Blk} {d s ty : Nat} {cs enc : List C} {ids : List Nat} {y : Blk} (e : fzL (ow h d) cs = some (enc, ids)) (hl : cs.length = s) (hn : ids.Nodup) (hb : ∀ b ∈ ids, b < h.length) :
    ow (h ++ [y] ++ [⟨s, ty, .mut, [cs]⟩]) (d + 1) (.row s (h.length + 1) 1) = some (.sl [enc], (h.length + 1) :: ids) ∧ ((h.length + 1) :: ids).Nodup := by
  refine ⟨ow_row_of (k := ⟨s, ty, .mut, [cs]⟩) (by rw [List.getElem?_append_right (by simp)]; simp) rfl rfl rfl (by simp [rowsLen, hl]) ?_, List.nodup_cons.2 ⟨fun hm => ?_, hn⟩⟩
  · have := owL_frame (h' := h ++ [y] ++ [⟨s, ty, .mut, [cs]⟩]) e (fun b hb' => by rw [List.append_assoc, List.getElem?_append_left (hb b hb')])
    simp only [fzRows, this, List.append_nil]
  · have := hb _ hm; omega
theorem own_grow {h : List Blk} {d d2 s ty b n : Nat} {cs enc : List C} {ids js : List Nat} {y k : Blk} {R : List (List C)} (e0 : ow h d2 (.row s b n) = some (.sl R, js)) (hk : h[b]? = some k) (e : fzL (ow h d) cs = some (enc, ids)) (hl : cs.length = s) (hn : (js ++ ids).Nodup) :
    ∃ d3 is, ow ((h ++ [y]).set b ⟨k.s, k.ty, .dead, []⟩ ++ [⟨s, ty, .mut, k.rows ++ [cs]⟩]) d3 (.row s (h.length + 1) (n + 1)) = some (.sl (R ++ [enc]), (h.length + 1) :: is) ∧ ((h.length + 1) :: is).Nodup ∧ ∀ x ∈ is, x ∈ js ++ ids := by
  obtain ⟨d', k', R', js', rfl, h1, h2, h3, h4, h5, h6, h7, rfl⟩ := ow_row e0
  rw [hk] at h1; cases h1
  cases h7
  have hbl : b < h.length := (List.getElem?_eq_some_iff.1 hk).1
  rw [List.cons_append, List.nodup_cons] at hn
  obtain ⟨hnb, hn⟩ := hn
  have hlt : ∀ x ∈ js' ++ ids, x < h.length := fun x hx => by
    rcases List.mem_append.1 hx with hx | hx
    · exact (owR_mut h6 x hx).lt
    · exact (owL_mut e x hx).lt
  have hfr : ∀ x ∈ js' ++ ids, ((h ++ [y]).set b ⟨k.s, k.ty, .dead, []⟩ ++ [⟨s, ty, .mut, k.rows ++ [cs]⟩])[x]? = h[x]? := fun x hx => by
    have := hlt x hx
    rw [List.getElem?_append_left (by simp; omega), List.getElem?_set_ne (fun e => hnb (by rw [e]; exact hx)), List.getElem?_append_left this]
  refine ⟨max d d' + 1, js' ++ ids, ow_row_of (k := ⟨s, ty, .mut, k.rows ++ [cs]⟩) (by rw [List.getElem?_append_right (by simp)]; simp) rfl (by simp [h3]) rfl ?_ ?_, List.nodup_cons.2 ⟨fun hm => ?_, hn⟩, fun x hx => List.mem_cons_of_mem _ hx⟩
  · subst h4
    rw [rowsLen_append, h5]; simp [rowsLen, hl]
  · refine fzRows_app (owR_le (Nat.le_max_right d d') (owR_frame h6 (fun x hx => hfr x (by simp [hx])))) ?_
    simp only [fzRows, owL_le (Nat.le_max_left d d') (owL_frame e (fun x hx => hfr x (by simp [hx]))), List.append_nil]
  · have := hlt _ hm; omega
end Go.Proofs.Sh
/- Owned trees: slices that grow, in a state of which the first blocks are known. -/
namespace Go.Proofs.Sh
open Go.RowKit

@[go_sem] theorem app_len {α : Type} (T : List α) (x : α) : (T ++ [x])[T.length]? = some x := by simp
@[go_sem] theorem app_len1 {α : Type} (T : List α) (x y : α) : (T ++ [x, y])[T.length]? = some x := by simp
@[go_sem] theorem app_len2 {α : Type} (T : List α) (x y : α) : (T ++ [x, y])[T.length + 1]? = some y := by simp
@[go_sem] theorem set_len {α : Type} (T : List α) (x y : α) : (T ++ [x]).set T.length y = T ++ [y] := by simp
@[go_sem] theorem set_len1 {α : Type} (T : List α) (x y z : α) : (T ++ [x, z]).set T.length y = T ++ [y, z] := by simp
@[go_sem] theorem set_len2 {α : Type} (T : List α) (x y z : α) : (T ++ [x, z]).set (T.length + 1) y = T ++ [x, y] := by simp
@[go_sem] theorem app_lenA {α : Type} (T : List α) (x y : α) : (T ++ [x] ++ [y])[T.length]? = some x := by simp
@[go_sem] theorem app_lenB {α : Type} (T : List α) (x y : α) : (T ++ [x] ++ [y])[T.length + 1]? = some y := by simp
@[go_sem] theorem set_lenA {α : Type} (T : List α) (x y z : α) : (T ++ [x] ++ [y]).set T.length z = T ++ [z] ++ [y] := by simp
@[go_sem] theorem set_lenB {α : Type} (T : List α) (x y z : α) : (T ++ [x] ++ [y]).set (T.length + 1) z = T ++ [x] ++ [z] := by simp
theorem get_app {α : Type} {T : List α} {j : Nat} {x : α} (h : T[j]? = some x) (U : List α) : (T ++ U)[j]? = some x := by
  rw [List.getElem?_append_left (List.getElem?_eq_some_iff.1 h).1]; exact h
theorem pre_split (pre : List Blk) {T h' : List Blk} (h1 : (pre ++ T).length ≤ h'.length) (h2 : ∀ b, b < (pre ++ T).length → h'[b]? = (pre ++ T)[b]?) : ∃ T', h' = pre ++ T' ∧ T.length ≤ T'.length ∧ ∀ i, i < T.length → T'[i]? = T[i]? := by
  refine ⟨h'.drop pre.length, ?_, by simp only [List.length_append, List.length_drop] at *; omega, fun i hi => ?_⟩
  · apply List.ext_getElem?
    intro i
    by_cases hi : i < pre.length
    · rw [h2 i (by simp; omega), List.getElem?_append_left hi, List.getElem?_append_left hi]
    · rw [List.getElem?_append_right (by omega), List.getElem?_drop]; congr 1; omega
  · rw [List.getElem?_drop, h2 _ (by simp; omega), List.getElem?_append_right (by omega)]; congr 1; omega
theorem pre1 {a : Blk} {T h' : List Blk} (h1 : (a :: T).length ≤ h'.length) (h2 : ∀ i, i < (a :: T).length → h'[i]? = (a :: T)[i]?) : ∃ T', h' = a :: T' ∧ T.length ≤ T'.length ∧ ∀ i, i < T.length → T'[i]? = T[i]? := pre_split [a] h1 h2
theorem pre3 {a b c : Blk} {T h' : List Blk} (h1 : (a :: b :: c :: T).length ≤ h'.length) (h2 : ∀ i, i < (a :: b :: c :: T).length → h'[i]? = (a :: b :: c :: T)[i]?) : ∃ T', h' = a :: b :: c :: T' ∧ T.length ≤ T'.length ∧ ∀ i, i < T.length → T'[i]? = T[i]? := pre_split [a, b, c] h1 h2

/-- the slice cell c: rows R, owned, in T, which lies behind p blocks -/
def Grown (s ty p : Nat) (R : List (List C)) (c : C) (T : List Blk) : Prop :=
  (R = [] ∧ c = .sc (.slice none 0 0)) ∨ ∃ j rows d js, 0 < R.length ∧ c = .row s (j + p) R.length ∧ T[j]? = some ⟨s, ty, .mut, rows⟩ ∧ rows.length = R.length ∧ rowsLen s rows = true ∧ (∀ pre : List Blk, pre.length = p → ow (pre ++ T) d c = some (.sl R, js)) ∧ js.Nodup ∧ ∀ b ∈ js, p ≤ b
theorem ow_pre {pre pre' T T' : List Blk} {d : Nat} {c c' : C} {ids : List Nat} (hp : pre.length = pre'.length) (hf : ∀ i, i < T.length → T'[i]? = T[i]?) (e : ow (pre ++ T) d c = some (c', ids)) (hge : ∀ b ∈ ids, pre.length ≤ b) : ow (pre' ++ T') d c = some (c', ids) :=
  ow_frame e (fun b hb => by
    have h1 := hge b hb
    have h2 := (ow_mut e b hb).lt
    rw [List.length_append] at h2
    rw [List.getElem?_append_right (by omega), List.getElem?_append_right h1, hf _ (by omega)]
    congr 1; omega)
theorem owL_pre {pre pre' T T' : List Blk} {d : Nat} {c c' : List C} {ids : List Nat} (hp : pre.length = pre'.length) (hf : ∀ i, i < T.length → T'[i]? = T[i]?) (e : fzL (ow (pre ++ T) d) c = some (c', ids)) (hge : ∀ b ∈ ids, pre.length ≤ b) : fzL (ow (pre' ++ T') d) c = some (c', ids) :=
  owL_frame e (fun b hb => by
    have h1 := hge b hb
    have h2 := (owL_mut e b hb).lt
    rw [List.length_append] at h2
    rw [List.getElem?_append_right (by omega), List.getElem?_append_right h1, hf _ (by omega)]
    congr 1; omega)
/-- one more row is appended -/
theorem Grown.more {s ty p d : Nat} {R : List (List C)} {c : C} {T T' pre : List Blk} {cs enc : List C} {ids : List Nat} (hG : Grown s ty p R c T) (hp : pre.length = p) (hT : T.length ≤ T'.length) (hf : ∀ i, i < T.length → T'[i]? = T[i]?)
    (e : fzL (ow (pre ++ T') d) cs = some (enc, ids)) (hl : cs.length = s) (hn : ids.Nodup) (hge : ∀ b ∈ ids, p + T.length ≤ b) :
    (c = .sc (.slice none 0 0) ∧ R = [] ∧ ∀ y, Grown s ty p (R ++ [enc]) (.row s (T'.length + 1 + p) 1) (T' ++ [y] ++ [⟨s, ty, .mut, [cs]⟩])) ∨
    ∃ j rows, c = .row s (j + p) R.length ∧ 0 < R.length ∧ T'[j]? = some ⟨s, ty, .mut, rows⟩ ∧ rows.length = R.length ∧ rowsLen s rows = true ∧ ∀ y, Grown s ty p (R ++ [enc]) (.row s (T'.length + 1 + p) (R.length + 1)) ((T' ++ [y]).set j ⟨s, ty, .dead, []⟩ ++ [⟨s, ty, .mut, rows ++ [cs]⟩]) := by
  have hgp : ∀ b ∈ ids, pre.length ≤ b := fun b hb => by have := hge b hb; omega
  rcases hG with ⟨hR, hc⟩ | ⟨j, rows, d0, js, hpos, hc, hj, hrl, hrs, how, hnd, hjs⟩
  · subst hR hc
    refine .inl ⟨rfl, rfl, fun y => .inr ⟨T'.length + 1, [cs], d + 1, (T'.length + 1 + p) :: ids, by simp, rfl, by rw [List.getElem?_append_right (by simp)]; simp, rfl, by simp [rowsLen, hl], fun pre' hp' => ?_, ?_, ?_⟩⟩
    · have e' := owL_pre (pre' := pre') (T' := T') (by omega) (fun _ _ => rfl) e hgp
      have := (own_grow0 (ty := ty) (y := y) e' hl hn (fun b hb => (owL_mut e' b hb).lt)).1
      rw [List.length_append, hp', show p + T'.length + 1 = T'.length + 1 + p from by omega] at this
      simpa only [List.append_assoc, List.nil_append] using this
    · refine List.nodup_cons.2 ⟨fun hm => ?_, hn⟩
      have := (owL_mut e _ hm).lt
      rw [List.length_append] at this; omega
    · intro b hb
      rcases List.mem_cons.1 hb with rfl | hb
      · omega
      · have := hge b hb; omega
  · subst hc
    have hjl := (List.getElem?_eq_some_iff.1 hj).1
    have hj' : T'[j]? = some ⟨s, ty, .mut, rows⟩ := by rw [hf j hjl]; exact hj
    refine .inr ⟨j, rows, rfl, hpos, hj', hrl, hrs, fun y => ?_⟩
    have key : ∀ pre' : List Blk, pre'.length = p → ∃ d3 is, ow (pre' ++ ((T' ++ [y]).set j ⟨s, ty, .dead, []⟩ ++ [⟨s, ty, .mut, rows ++ [cs]⟩])) d3 (.row s (T'.length + 1 + p) (R.length + 1)) = some (.sl (R ++ [enc]), (T'.length + 1 + p) :: is) ∧ ((T'.length + 1 + p) :: is).Nodup ∧ ∀ x ∈ is, x ∈ js ++ ids := fun pre' hp' => by
      have e0 := ow_pre (pre' := pre') (T' := T') (by omega) hf (how pre hp) (fun b hb => by have := hjs b hb; omega)
      have e1 := owL_pre (pre' := pre') (T' := T') (by omega) (fun _ _ => rfl) e hgp
      have hkk : (pre' ++ T')[j + p]? = some ⟨s, ty, .mut, rows⟩ := by rw [List.getElem?_append_right (by omega), ← hj']; congr 1; omega
      obtain ⟨d3, is, h1, h2, h3⟩ := own_grow (ty := ty) (y := y) e0 hkk e1 hl (by
        refine List.nodup_append.2 ⟨hnd, hn, fun a ha b hb hab => ?_⟩
        subst hab
        have h1 := (ow_mut (how pre hp) a ha).lt
        rw [List.length_append] at h1
        have := hge a hb; omega)
      rw [List.length_append, hp', show p + T'.length + 1 = T'.length + 1 + p from by omega] at h1 h2
      refine ⟨d3, is, ?_, h2, h3⟩
      rw [List.append_assoc, List.set_append_right _ _ (by omega), show j + p - pre'.length = j from by omega, List.append_assoc] at h1
      exact h1
    obtain ⟨d3, is, h1, h2, h3⟩ := key pre hp
    have hise : ∀ x ∈ (T'.length + 1 + p) :: is, p ≤ x := fun x hx => by
      rcases List.mem_cons.1 hx with rfl | hx
      · omega
      · rcases List.mem_append.1 (h3 x hx) with hx | hx
        · exact hjs x hx
        · have := hge x hx; omega
    refine .inr ⟨T'.length + 1, rows ++ [cs], d3, _, by simp, by simp, by rw [List.getElem?_append_right (by simp)]; simp, by simp [hrl], by rw [rowsLen_append, hrs]; simp [rowsLen, hl], fun pre' hp' => ?_, h2, hise⟩
    have h4 := ow_pre (pre' := pre') (T' := (T' ++ [y]).set j ⟨s, ty, .dead, []⟩ ++ [⟨s, ty, .mut, rows ++ [cs]⟩]) (by omega) (fun _ _ => rfl) h1 (fun b hb => by have := hise b hb; omega)
    simpa using h4

/-- a struct's cells are handed back with the blocks of their trees -/
theorem ret_ownK {P : Program} {rs : List ResultVar} {s : ASt} {d : Nat} {cs enc : List C} {ids : List Nat} {F : List C → AV} (h : aresult P s rs = some (F cs)) (e : fzL (ow s.h d) cs = some (enc, ids)) (hn : ids.Nodup) (hF : ∀ cs', prL false s.h ids cs = some (cs', []) → prVs false s.h ids [F cs] = some ([F cs'], [])) : ARet P rs 0 (OwnK enc F) s := by
  obtain ⟨r', H', h1, q1, q2⟩ := own_ret e hn hF
  exact ret_own ids h (by simpa using q1) q2
theorem prVs_agg {h : List Blk} {ids : List Nat} {cs cs' : List C} (e : prL false h ids cs = some (cs', [])) : prVs false h ids [.agg cs] = some ([.agg cs'], []) := by simp only [prVs, prV, e, List.append_nil]
theorem ren_agg (cs : List C) (g : Nat → Nat) : (AV.agg cs).ren g = .agg (cs.map (C.ren g)) := by simp only [AV.ren, renA_map]
/-- the whole of a slice that has grown -/
theorem Grown.ow {s ty p : Nat} {R : List (List C)} {c : C} {T : List Blk} (hG : Grown s ty p R c T) : ∃ d js, (∀ pre : List Blk, pre.length = p → ow (pre ++ T) d c = some (.sl R, js)) ∧ js.Nodup ∧ ∀ b ∈ js, p ≤ b := by
  rcases hG with ⟨rfl, rfl⟩ | ⟨j, rows, d0, js, hpos, rfl, hj, hrl, hrs, how, hnd, hjs⟩
  · exact ⟨0, [], fun _ _ => rfl, List.nodup_nil, by simp⟩
  · exact ⟨d0, js, how, hnd, hjs⟩
theorem ow_int {h : List Blk} {d : Nat} {k : IntKind} {n : Int} : Sh.ow h d (.sc (.int k n)) = some (.sc (.int k n), []) := by rw [ow_leaf (by simp)]; rfl
theorem ow_str {h : List Blk} {d : Nat} {n : ByteArray} : Sh.ow h d (.sc (.string n)) = some (.sc (.string n), []) := by rw [ow_leaf (by simp)]; rfl
theorem owL_two {h : List Blk} {d : Nat} {k : IntKind} {n : Int} {c c' : C} {js : List Nat} (e : Sh.ow h d c = some (c', js)) : fzL (Sh.ow h d) [.sc (.int k n), c] = some ([.sc (.int k n), c'], js) := by
  simp only [fzL, ow_int, e, List.append_nil, List.nil_append]

/-! ### a slice that is made whole and filled row by row -/
/-- rows of which those of R are there, owned, in T, which lies behind p blocks; m more are as z says -/
def Filled (s p : Nat) (R : List (List C)) (m : Nat) (z : List C) (rows : List (List C)) (T : List Blk) : Prop :=
  ∃ rs d js, rows = rs ++ List.replicate m z ∧ rowsLen s rs = true ∧ rs.length = R.length ∧ (∀ pre : List Blk, pre.length = p → fzRows (ow (pre ++ T) d) rs = some (R, js)) ∧ js.Nodup ∧ ∀ b ∈ js, p ≤ b
theorem Filled.zero {s p m : Nat} {z : List C} : Filled s p [] m z (List.replicate m z) [] := ⟨[], 0, [], rfl, rfl, rfl, fun _ _ => rfl, List.nodup_nil, by simp⟩
theorem Filled.get {s p m : Nat} {R : List (List C)} {z : List C} {rows : List (List C)} {T : List Blk} (h : Filled s p R (m + 1) z rows T) : rows[R.length]? = some z := by
  obtain ⟨rs, d, js, rfl, h2, h3, h4, h5, h6⟩ := h
  rw [← h3, List.getElem?_append_right (Nat.le_refl _)]
  simp
theorem owR_pre {pre pre' T T' : List Blk} {d : Nat} {c c' : List (List C)} {ids : List Nat} (hp : pre.length = pre'.length) (hf : ∀ i, i < T.length → T'[i]? = T[i]?) (e : fzRows (ow (pre ++ T) d) c = some (c', ids)) (hge : ∀ b ∈ ids, pre.length ≤ b) : fzRows (ow (pre' ++ T') d) c = some (c', ids) :=
  owR_frame e (fun b hb => by
    have h1 := hge b hb
    have h2 := (owR_mut e b hb).lt
    rw [List.length_append] at h2
    rw [List.getElem?_append_right (by omega), List.getElem?_append_right h1, hf _ (by omega)]
    congr 1; omega)
theorem Filled.next {s p m d : Nat} {R : List (List C)} {z : List C} {rows : List (List C)} {T T' pre : List Blk} {cs enc : List C} {ids : List Nat} (h : Filled s p R (m + 1) z rows T) (hp : pre.length = p) (hf : ∀ i, i < T.length → T'[i]? = T[i]?)
    (e : fzL (ow (pre ++ T') d) cs = some (enc, ids)) (hl : cs.length = s) (hn : ids.Nodup) (hge : ∀ b ∈ ids, p + T.length ≤ b) : Filled s p (R ++ [enc]) m z (rows.set R.length cs) T' := by
  obtain ⟨rs, d0, js, rfl, h2, h3, h4, h5, h6⟩ := h
  refine ⟨rs ++ [cs], max d0 d, js ++ ids, ?_, by rw [rowsLen_append, h2]; simp [rowsLen, hl], by simp [h3], fun pre' hp' => ?_, ?_, ?_⟩
  · rw [← h3, List.set_append_right _ _ (Nat.le_refl _)]
    simp [List.replicate_succ]
  · refine fzRows_app (owR_le (Nat.le_max_left _ _) (owR_pre (pre := pre') (by omega) hf (h4 pre' hp') (fun b hb => by have := h6 b hb; omega))) ?_
    have := owL_le (Nat.le_max_right d0 d) (owL_pre (pre' := pre') (T' := T') (by omega) (fun _ _ => rfl) e (fun b hb => by have := hge b hb; omega))
    simp only [fzRows, this, List.append_nil]
  · refine List.nodup_append.2 ⟨h5, hn, fun a ha b hb hab => ?_⟩
    subst hab
    have h1 := (owR_mut (h4 pre hp) a ha).lt
    rw [List.length_append] at h1
    have := hge a hb; omega
  · intro b hb
    rcases List.mem_append.1 hb with hb | hb
    · exact h6 b hb
    · have := hge b hb; omega
theorem Filled.all {s p b n : Nat} {R : List (List C)} {z : List C} {rows : List (List C)} {T pre : List Blk} {k : Blk} (h : Filled s p R 0 z rows T) (hp : pre.length = p) (hb : b < p) (hk : pre[b]? = some k) (hr : k.rows = rows) (hs : k.s = s) (hm : k.st.isMut = true) (hn : n = R.length) : ∃ d js, ow (pre ++ T) d (.row s b n) = some (.sl R, b :: js) ∧ (b :: js).Nodup := by
  obtain ⟨rs, d0, js, rfl, h2, h3, h4, h5, h6⟩ := h
  simp only [List.replicate_zero, List.append_nil] at hr
  refine ⟨d0 + 1, js, ow_row_of (k := k) (by rw [List.getElem?_append_left (by omega)]; exact hk) hm (by rw [hr, h3, hn]) hs.symm (by rw [hr]; exact h2) (by rw [hr]; exact h4 pre hp), List.nodup_cons.2 ⟨fun hm => ?_, h5⟩⟩
  have := h6 b hm; omega

/-- one cell as a value -/
def one1 (cs : List C) : AV := .one (cs.getD 0 .top)
theorem one1_flat (cs : List C) (h : cs.all C.flat = true) : (one1 cs).flat = true := by
  cases cs with
  | nil => rfl
  | cons c cs => simp only [List.all_cons, Bool.and_eq_true] at h; exact h.1
theorem one1_ren (cs : List C) (g : Nat → Nat) : (one1 cs).ren g = one1 (cs.map (C.ren g)) := by
  cases cs <;> rfl
theorem prVs_one1 {h : List Blk} {ids : List Nat} {c : C} {d : Nat} {enc : List C} (e : fzL (Sh.ow h d) [c] = some (enc, ids)) (cs' : List C) (ep : prL false h ids [c] = some (cs', [])) : prVs false h ids [one1 [c]] = some ([one1 cs'], []) := by
  obtain ⟨x, i, h1, h2⟩ : ∃ x i, Sh.ow h d c = some (x, i) ∧ i = ids := by
    simp only [fzL] at e
    split at e
    · rename_i c1 i c2 j h1 h2
      simp only [Option.some.injEq, Prod.mk.injEq] at e h2
      exact ⟨c1, i, h1, by rw [← e.2, ← h2.2]; simp⟩
    · cases e
  subst h2
  have h3 := prC_ow (ks := i) h1 (fun _ h => h)
  have h4 := prL_ow e (fun _ h => h)
  rw [h4] at ep
  simp only [Option.some.injEq, Prod.mk.injEq, and_true] at ep
  subst ep
  simp only [prVs, prV, one1, List.getD_cons_zero, h3, List.append_nil, List.map_cons, List.map_nil]
theorem owL_one {h : List Blk} {d : Nat} {c c' : C} {js : List Nat} (e : Sh.ow h d c = some (c', js)) : fzL (Sh.ow h d) [c] = some ([c'], js) := by
  simp only [fzL, e, List.append_nil]
end Go.Proofs.Sh
/- Types: copies that are owned, in the program. On shadows. -/
namespace Go.Proofs.Ytchcbfbnffhifaa
open Go.RowKit Go.Proofs.Sh Go.Proofs.Grad
set_option maxRecDepth 100000
set_option maxHeartbeats 4000000
theorem iOwnTyO (n : Nat) (hn : n ≤ 4398046511104) : ∀ t : Ty, t.size < n → ACl Try.prog 117 [.agg (tyC t)] [] (OwnK (tyC t) .agg) := by
  induction n with
  | zero => intro t h; omega
  | succ n ih =>
    intro t h
    have hl : t.kids.length < 4398046511104 := by have := Ty.length_le_sizes t.kids; cases t; simp only [Ty.size, Ty.kids] at *; omega
    refine acl_in Try.func117 rfl isfn_117 (Nat.le_of_ble_eq_true rfl) (fun R hR => ?_); rw [Try.results117] at hR; refine wg_run ?_; (simp only [Try.f117, go_sem])
    refine wd_for (σ := Nat × C × List Blk) [2, 3, 10, 11, 12] (fun x => [.one (.ptr 2 1 0 0), .one (.ptr 2 2 0 0), .one (.sl (tyR t.kids)), .one (.sc (.int .i64 t.kids.length)), .one (.sc (.int .i64 (x.1 : Nat)))])
      (fun x => ⟨2, 32, .mut, [tyC t]⟩ :: ⟨2, 32, .mut, [[.sc (.int .i64 0), .sc (.slice none 0 0)]]⟩ :: ⟨2, 32, .mut, [[.sc (.int .i64 t.kind), x.2.1]]⟩ :: x.2.2)
      (fun x => x.1 ≤ t.kids.length ∧ Grown 2 32 3 (tyR (t.kids.take x.1)) x.2.1 x.2.2) (fun x => t.kids.length - x.1) (0, .sc (.slice none 0 0), []) ⟨Nat.zero_le _, .inl ⟨rfl, rfl⟩⟩ (head_all (by (simp only [go_sem]); first | done | rfl) ⟨rfl, rfl⟩) ?_
    rintro ⟨k, c, T⟩ ⟨hk, hI⟩ G hG
    simp only at hk hI hG ⊢
    refine wg_run ?_
    (simp only [go_sem])
    ((first | apply sp1 | apply sp2 | apply sp3 | apply sp4 | apply sp5 | apply sp6 | apply sp7) <;> intro hb) <;> (simp only [go_sem, hb])
    · have hk1 : k < t.kids.length := by have := of_decide_eq_true hb; omega
      repeat' (first | (first | (simp only [go_sem, hb]) | (((first | apply sp1 | apply sp2 | apply sp3 | apply sp4 | apply sp5 | apply sp6 | apply sp7) <;> intro hb) <;> (simp only [go_sem, hb, hb])) | ((first | apply wm_done | apply wt_done | apply wg_run | refine fk ?_ ?_) <;> (simp only [go_sem, hb]))) | ((first | refine mxq6 [] ?_ | refine mxq5 [] ?_ | refine mxq4 [] ?_ | refine mxq3 [] ?_ | refine mxq2 [] ?_ | refine mxq1 [] ?_ | refine mxq0 [] ?_ | fail); (simp only [go_sem, hb])))
      refine wm_any (acalls_own (.cons (.same (by (simp only [go_sem]); first | done | rfl)) .nil) (ih (by omega) (kid t.kids k) (by have := kid_lt hk1; omega)) (fun _ h => h) (fun _ _ => by simp only [AV.ren, renA_map])) (by (simp only [go_sem]); first | done | rfl) (by (simp only [go_sem]); first | done | rfl) ?_
      rintro _ h' ⟨cs, d, ids, rfl, e1, e2, e3, e4, e5⟩
      obtain ⟨T', rfl, f1, f2⟩ := pre3 e4 e5
      have hcs : cs.length = 2 := by rw [← fzL_len e1, tyC_length]
      have hlen : (t.kids.take k).length = k := by rw [List.length_take]; omega
      have hcap : (k + 1) * 32 ≤ 140737488355328 := by omega
      have hw1 : IntKind.i64.wrap (((k : Nat) : Int) + 1) = ((k + 1 : Nat) : Int) := wrap_succ hk1 (by omega)
      rcases hI.more (pre := [_, _, _]) rfl (Nat.le_trans (by simp) f1) (fun i hi => by rw [f2 i (by simp; omega), List.getElem?_append_left hi]) e1 hcs e2 (fun b hb => by have := (e3 b hb).1; simp at this; omega) with ⟨rfl, h0, hy⟩ | ⟨j, rows, rfl, hpos, hj, hrl, hrs, hy⟩
      · (simp only [go_sem, hcs])
        repeat' (first | (simp only [go_sem, hcs, hw1, hlen, hcap]) | (((first | apply sp1 | apply sp2 | apply sp3 | apply sp4 | apply sp5 | apply sp6 | apply sp7) <;> intro hb) <;> (simp only [go_sem, hb, hcs, hw1, hlen, hcap])) | ((first | apply wm_done | apply wt_done | apply wg_run | refine fk ?_ ?_) <;> (simp only [go_sem, hcs, hw1, hlen, hcap])))
        refine hG (k + 1, _, _) _ _ ⟨by omega, ?_⟩ (by simp only; omega) (head_all (by (simp only [go_sem]); first | done | rfl) ⟨rfl, rfl⟩)
        simp only [tyR_take hk1]
        exact hy _
      · have hj2 := fun U => get_app hj U
        rw [tyR_length, hlen] at hrl hpos hy
        (simp only [go_sem, hcs, hj2, hlen])
        repeat' (first | (simp only [go_sem, hcs, hw1, hlen, hcap, hj2, hrl, hrs]) | (((first | apply sp1 | apply sp2 | apply sp3 | apply sp4 | apply sp5 | apply sp6 | apply sp7) <;> intro hb) <;> (simp only [go_sem, hb, hcs, hw1, hlen, hcap, hj2, hrl, hrs])) | ((first | apply wm_done | apply wt_done | apply wg_run | refine fk ?_ ?_) <;> (simp only [go_sem, hcs, hw1, hlen, hcap, hj2, hrl, hrs])))
        refine hG (k + 1, _, _) _ _ ⟨by omega, ?_⟩ (by simp only; omega) (head_all (by (simp only [go_sem]); first | done | rfl) ⟨rfl, rfl⟩)
        simp only [tyR_take hk1]
        exact hy _
    · have hk1 : k = t.kids.length := by have := of_decide_eq_false hb; omega
      rw [hk1, List.take_length] at hI
      obtain ⟨d, js, h1, h2, h3⟩ := hI.ow
      refine hR _ (ret_ownK (d := d) (ids := js) (by (simp only [go_sem]); first | done | rfl) ?_ h2 (fun _ => prVs_agg))
      rw [tyC_eq]
      exact owL_two (h1 [_, _, _] rfl)
end Go.Proofs.Ytchcbfbnffhifaa
/- Coercions as trees, and their pure functions. No program, no world. -/
namespace Go.Proofs.Grad

/-- coercions as they come -/
inductive Co where
  | mk (k tag label : Int) (kids : List Co)
def Co.kind : Co → Int | .mk k _ _ _ => k
def Co.tag : Co → Int | .mk _ t _ _ => t
def Co.label : Co → Int | .mk _ _ l _ => l
def Co.kids : Co → List Co | .mk _ _ _ l => l
mutual
def Co.size : Co → Nat
  | .mk _ _ _ l => 1 + Co.sizes l
def Co.sizes : List Co → Nat
  | [] => 0
  | t :: l => t.size + Co.sizes l
end
/-- coercions that are valid but for depth and labels, where of a form -/
inductive K where
  | id (g : Int) | fn (a b : K) | pr (a b : K) | inj (c : K) | prj (l : Int) (c : K) | fail (l g : Int)
def K.co : K → Co
  | .id g => .mk 1 g 0 []
  | .fn a b => .mk 2 0 0 [a.co, b.co]
  | .pr a b => .mk 3 0 0 [a.co, b.co]
  | .inj c => .mk 4 0 0 [c.co]
  | .prj l c => .mk 5 0 l [c.co]
  | .fail l g => .mk 6 g l []
def K.plain : K → Bool
  | .fn _ _ => true | .pr _ _ => true | .id g => g != 1 | _ => false
def K.isAny : K → Bool
  | .id g => g == 1 | _ => false
def K.isPrj : K → Bool
  | .prj _ _ => true | _ => false
/-- a label -/
def lab (n : Int) : Bool := (decide (1 ≤ n) && decide (n ≤ 99)) || (decide (-99 ≤ n) && decide (n ≤ -1))
def K.wf : K → Bool
  | .id g => decide (1 ≤ g) && decide (g ≤ 3)
  | .fn a b => a.wf && b.wf
  | .pr a b => a.wf && b.wf
  | .inj c => c.plain && c.wf
  | .prj l c => lab l && !c.isPrj && !c.isAny && c.wf
  | .fail l g => lab l && decide (2 ≤ g) && decide (g ≤ 5)
def K.depth : K → Nat
  | .id _ => 1 | .fail _ _ => 1
  | .fn a b => max a.depth b.depth + 1
  | .pr a b => max a.depth b.depth + 1
  | .inj c => c.depth + 1
  | .prj _ c => c.depth + 1
def K.size : K → Nat
  | .id _ => 1 | .fail _ _ => 1
  | .fn a b => a.size + b.size + 1
  | .pr a b => a.size + b.size + 1
  | .inj c => c.size + 1
  | .prj _ c => c.size + 1
def K.tag : K → Int
  | .id g => g | .fn _ _ => 4 | .pr _ _ => 5 | .inj c => c.tag | .prj _ _ => 0 | .fail _ g => g
def K.labels : K → List Int
  | .id _ => [] | .fail l _ => [l]
  | .fn a b => a.labels ++ b.labels
  | .pr a b => a.labels ++ b.labels
  | .inj c => c.labels
  | .prj l c => l :: c.labels
mutual
def Co.same : Co → Co → Bool
  | .mk k t l a, .mk k' t' l' b => k == k' && (t == t' && (l == l' && Co.sames a b))
def Co.sames : List Co → List Co → Bool
  | [], [] => true
  | a :: l, b :: m => a.same b && Co.sames l m
  | _, _ => false
end
mutual
theorem Co.same_iff : ∀ a b : Co, a.same b = true ↔ a = b
  | .mk k t l a, .mk k' t' l' b => by simp [Co.same, Co.sames_iff a b]
theorem Co.sames_iff : ∀ a b : List Co, Co.sames a b = true ↔ a = b
  | [], [] => by simp [Co.sames]
  | [], _ :: _ => by simp [Co.sames]
  | _ :: _, [] => by simp [Co.sames]
  | a :: l, b :: m => by simp [Co.sames, Co.same_iff a b, Co.sames_iff l m]
end
theorem Co.same_refl (a : Co) : a.same a = true := (Co.same_iff a a).2 rfl
def Co.plain (c : Co) : Bool := c.kind == 2 || (c.kind == 3 || (c.kind == 1 && c.tag != 1))
def Co.okN (c : Co) : Bool :=
  match c with
  | .mk k t l ks =>
    if k = 1 then ks.length == 0 && (l == 0 && (decide (1 ≤ t) && decide (t ≤ 3)))
    else if k = 2 ∨ k = 3 then ks.length == 2 && (l == 0 && t == 0)
    else if k = 4 then (match ks with | [c] => l == 0 && (t == 0 && c.plain) | _ => false)
    else if k = 5 then (match ks with | [c] => lab l && (t == 0 && (c.kind != 5 && (c.kind != 1 || c.tag != 1))) | _ => false)
    else if k = 6 then ks.length == 0 && (lab l && (decide (2 ≤ t) && decide (t ≤ 5)))
    else false
def Co.shape : Nat → Co → Bool
  | 0, _ => false
  | d + 1, c => c.okN && c.kids.all (Co.shape d)
def Co.valid (c : Co) : Bool := c.shape 9

theorem K.co_plain (k : K) : k.co.plain = k.plain := by cases k <;> simp [K.co, Co.plain, Co.kind, Co.tag, K.plain]
theorem K.co_any (k : K) : (k.co.kind == 1 && k.co.tag == 1) = k.isAny := by cases k <;> simp [K.co, Co.kind, Co.tag, K.isAny]
theorem K.co_prj (k : K) : (k.co.kind == 5) = k.isPrj := by cases k <;> simp [K.co, Co.kind, K.isPrj]
theorem K.shape_co : ∀ (k : K) (d : Nat), k.co.shape d = (k.wf && decide (k.depth ≤ d))
  | k, 0 => by cases k <;> simp [Co.shape, K.depth]
  | .id g, d + 1 => by simp [K.co, Co.shape, Co.okN, Co.kids, K.wf, K.depth]
  | .fail l g, d + 1 => by simp [K.co, Co.shape, Co.okN, Co.kids, K.wf, K.depth, Bool.and_assoc]
  | .fn a b, d + 1 => by
    simp only [K.co, Co.shape, Co.okN, Co.kids, K.wf, K.depth, List.all_cons, List.all_nil, K.shape_co a d, K.shape_co b d]
    rw [Bool.eq_iff_iff]; simp; grind
  | .pr a b, d + 1 => by
    simp only [K.co, Co.shape, Co.okN, Co.kids, K.wf, K.depth, List.all_cons, List.all_nil, K.shape_co a d, K.shape_co b d]
    rw [Bool.eq_iff_iff]; simp; grind
  | .inj a, d + 1 => by
    simp only [K.co, Co.shape, Co.okN, Co.kids, K.wf, K.depth, List.all_cons, List.all_nil, K.shape_co a d, K.co_plain]
    rw [Bool.eq_iff_iff]; simp; grind
  | .prj l a, d + 1 => by
    have h1 := K.co_any a
    have h2 := K.co_prj a
    simp only [K.co, Co.shape, Co.okN, Co.kids, K.wf, K.depth, List.all_cons, List.all_nil, K.shape_co a d, ← h1, ← h2]
    rw [Bool.eq_iff_iff]; simp [bne]; grind
theorem Co.shape_K : ∀ (d : Nat) (c : Co), c.shape d = true → ∃ k : K, k.co = c ∧ k.wf = true ∧ k.depth ≤ d := by
  intro d
  induction d with
  | zero => intro c h; simp [Co.shape] at h
  | succ d ih =>
    intro c h
    obtain ⟨k, t, l, ks⟩ := c
    have h0 := h
    simp only [Co.shape, Bool.and_eq_true, Co.kids, List.all_eq_true] at h
    obtain ⟨h1, h2⟩ := h
    have fin : ∀ x : K, x.co = Co.mk k t l ks → ∃ k' : K, k'.co = Co.mk k t l ks ∧ k'.wf = true ∧ k'.depth ≤ d + 1 := by
      intro x hx
      rw [← hx, K.shape_co] at h0
      simp only [Bool.and_eq_true, decide_eq_true_eq] at h0
      exact ⟨x, hx, h0.1, h0.2⟩
    simp only [Co.okN] at h1
    split at h1
    · rename_i hk; simp at h1
      obtain ⟨rfl, rfl, _⟩ := h1
      subst hk
      exact fin (.id t) rfl
    · split at h1
      · rename_i hk; simp at h1
        obtain ⟨hl, rfl, rfl⟩ := h1
        obtain ⟨a, b, rfl⟩ : ∃ a b, ks = [a, b] := by
          match ks, hl with
          | [a, b], _ => exact ⟨a, b, rfl⟩
        obtain ⟨x, hx, _⟩ := ih a (h2 a (by simp))
        obtain ⟨y, hy, _⟩ := ih b (h2 b (by simp))
        rcases hk with rfl | rfl
        · exact fin (.fn x y) (by rw [K.co, hx, hy])
        · exact fin (.pr x y) (by rw [K.co, hx, hy])
      · split at h1
        · rename_i hk; subst hk
          split at h1
          · rename_i a; simp at h1
            obtain ⟨rfl, rfl, _⟩ := h1
            obtain ⟨x, hx, _⟩ := ih a (h2 a (by simp))
            exact fin (.inj x) (by rw [K.co, hx])
          · cases h1
        · split at h1
          · rename_i hk; subst hk
            split at h1
            · rename_i a; simp at h1
              obtain ⟨_, rfl, _⟩ := h1
              obtain ⟨x, hx, _⟩ := ih a (h2 a (by simp))
              exact fin (.prj l x) (by rw [K.co, hx])
            · cases h1
          · split at h1
            · rename_i hk; subst hk
              simp at h1
              obtain ⟨rfl, _⟩ := h1
              exact fin (.fail l t) rfl
            · cases h1
theorem Co.valid_iff (c : Co) : c.valid = true ↔ ∃ k : K, k.co = c ∧ k.wf = true ∧ k.depth ≤ 9 :=
  ⟨Co.shape_K 9 c, fun ⟨k, e, h1, h2⟩ => by rw [← e, Co.valid, K.shape_co, h1]; simpa using h2⟩
end Go.Proofs.Grad
/- Relations on types that are valid. No program, no world. -/
namespace Go.Proofs.Grad
open Classical in
/-- the relation, where both types are valid -/
noncomputable def onT (R : T → T → Bool) (a b : Ty) : Bool := decide (∃ x y : T, x.ty = a ∧ y.ty = b ∧ x.depth ≤ 4 ∧ y.depth ≤ 4 ∧ R x y = true)

open Classical in
theorem onT_ty (R : T → T → Bool) {x y : T} (hx : x.depth ≤ 4) (hy : y.depth ≤ 4) : onT R x.ty y.ty = R x y := by
  unfold onT
  rw [Bool.eq_iff_iff, decide_eq_true_iff]
  constructor
  · rintro ⟨x', y', h1, h2, _, _, h⟩
    rw [← T.ty_inj _ _ h1, ← T.ty_inj _ _ h2]; exact h
  · intro h; exact ⟨x, y, rfl, rfl, hx, hy, h⟩
open Classical in
theorem onT_off (R : T → T → Bool) {a b : Ty} (h : (a.valid && b.valid) = false) : onT R a b = false := by
  unfold onT
  rw [decide_eq_false_iff_not]
  rintro ⟨x, y, rfl, rfl, hx, hy, _⟩
  simp [Ty.valid, T.shape_ty, hx, hy] at h
end Go.Proofs.Grad
/- Terms as trees, their checks and their forms. No program, no world. -/
namespace Go.Proofs.Grad

/-- terms as they come -/
inductive Tm where
  | mk (kind : Int) (name : ByteArray) (num : Int) (type frm : Ty) (label : Int) (kids : List Tm)
def Tm.kind : Tm → Int | .mk k _ _ _ _ _ _ => k
def Tm.name : Tm → ByteArray | .mk _ n _ _ _ _ _ => n
def Tm.num : Tm → Int | .mk _ _ n _ _ _ _ => n
def Tm.type : Tm → Ty | .mk _ _ _ t _ _ _ => t
def Tm.frm : Tm → Ty | .mk _ _ _ _ t _ _ => t
def Tm.label : Tm → Int | .mk _ _ _ _ _ l _ => l
def Tm.kids : Tm → List Tm | .mk _ _ _ _ _ _ l => l
mutual
def Tm.size : Tm → Nat
  | .mk _ _ _ t f _ l => 1 + (t.size + f.size + Tm.sizes l)
def Tm.sizes : List Tm → Nat
  | [] => 0
  | t :: l => t.size + Tm.sizes l
end
mutual
def Tm.nodes : Tm → Nat
  | .mk _ _ _ _ _ _ l => 1 + Tm.nodess l
def Tm.nodess : List Tm → Nat
  | [] => 0
  | t :: l => t.nodes + Tm.nodess l
end
mutual
theorem Tm.nodes_le : ∀ t : Tm, t.nodes ≤ t.size
  | .mk _ _ _ _ _ _ l => by have := Tm.nodess_le l; simp only [Tm.nodes, Tm.size]; omega
theorem Tm.nodess_le : ∀ l : List Tm, Tm.nodess l ≤ Tm.sizes l
  | [] => Nat.le_refl _
  | t :: l => by have := Tm.nodes_le t; have := Tm.nodess_le l; simp only [Tm.nodess, Tm.sizes]; omega
end
theorem Tm.nodes_eq (t : Tm) : t.nodes = 1 + Tm.nodess t.kids := by cases t; simp only [Tm.nodes, Tm.kids]
theorem bytes_ext {a b : ByteArray} (h : a.toList = b.toList) : a = b := by
  rw [Go.ByteArray.toList_eq, Go.ByteArray.toList_eq] at h
  obtain ⟨⟨a⟩⟩ := a; obtain ⟨⟨b⟩⟩ := b
  simp at h; subst h; rfl
mutual
def Tm.same : Tm → Tm → Bool
  | .mk k n m t f l a, .mk k' n' m' t' f' l' b => k == k' && (n.toList == n'.toList && (m == m' && (t.same t' && (f.same f' && (l == l' && Tm.sames a b)))))
def Tm.sames : List Tm → List Tm → Bool
  | [], [] => true
  | a :: l, b :: m => a.same b && Tm.sames l m
  | _, _ => false
end
mutual
theorem Tm.same_iff : ∀ a b : Tm, a.same b = true ↔ a = b
  | .mk k n m t f l a, .mk k' n' m' t' f' l' b => by
    simp only [Tm.same, Bool.and_eq_true, beq_iff_eq, Ty.same_iff, Tm.sames_iff a b, Tm.mk.injEq]
    exact ⟨fun ⟨h1, h2, h3, h4, h5, h6, h7⟩ => ⟨h1, bytes_ext h2, h3, h4, h5, h6, h7⟩, fun ⟨h1, h2, h3, h4, h5, h6, h7⟩ => ⟨h1, by rw [h2], h3, h4, h5, h6, h7⟩⟩
theorem Tm.sames_iff : ∀ a b : List Tm, Tm.sames a b = true ↔ a = b
  | [], [] => by simp [Tm.sames]
  | [], _ :: _ => by simp [Tm.sames]
  | _ :: _, [] => by simp [Tm.sames]
  | a :: l, b :: m => by simp [Tm.sames, Tm.same_iff a b, Tm.sames_iff l m]
end
theorem Tm.same_refl (a : Tm) : a.same a = true := (Tm.same_iff a a).2 rfl

/-! ### checks of a node -/
/-- a name -/
def nmOk (s : ByteArray) : Bool := s.size == 1 && (match s[0]? with | some b => decide (97 ≤ (b.toNat : Int)) && decide ((b.toNat : Int) ≤ 122) | none => false)
def nm (b : UInt8) : ByteArray := ⟨#[b]⟩
def nmB (b : UInt8) : Bool := decide (97 ≤ (b.toNat : Int)) && decide ((b.toNat : Int) ≤ 122)
theorem nmOk_nm (b : UInt8) : nmOk (nm b) = nmB b := rfl
theorem bs_empty_size : ByteArray.empty.size = 0 := rfl
theorem size_mk (l : Array UInt8) : (ByteArray.mk l).size = l.size := rfl
theorem nmOk_some {s : ByteArray} (h : nmOk s = true) : ∃ b, s = nm b ∧ nmB b = true := by
  obtain ⟨⟨l⟩⟩ := s
  match l, h with
  | [b], h => exact ⟨b, rfl, by rw [← nmOk_nm]; exact h⟩
  | [], h => rw [nmOk, size_mk] at h; simp at h
  | _ :: _ :: _, h => rw [nmOk, size_mk] at h; simp at h
/-- how many operands -/
def opN (k : Int) : Int := if k = 1 then 0 else if k = 2 then 0 else if k = 3 then 0 else if k = 4 then 0 else if k = 5 then 1 else if k = 6 then 2 else if k = 7 then 2 else if k = 8 then 2 else if k = 9 then 3 else if k = 10 then 2 else if k = 11 then 1 else if k = 12 then 1 else if k = 13 then 1 else if k = 14 then 1 else -1
def noTy : Ty := .mk 0 []
def Ty.isNo (t : Ty) : Bool := t.kind == 0 && t.kids.length == 0
theorem Ty.isNo_iff {t : Ty} (h : t.isNo = true) : t = noTy := by
  obtain ⟨k, l⟩ := t
  simp only [Ty.isNo, Ty.kind, Ty.kids, Bool.and_eq_true, beq_iff_eq] at h
  rw [h.1, List.eq_nil_of_length_eq_zero h.2]; rfl
noncomputable def Tm.nodeOk (t : Tm) : Bool :=
  opN t.kind == (t.kids.length : Int) &&
  ((if t.kind = 1 ∨ t.kind = 5 then nmOk t.name else t.name.size == 0) &&
  ((decide (0 ≤ t.num) && decide (t.num ≤ if t.kind = 2 then 999 else 0)) &&
  ((if t.kind = 5 ∨ t.kind = 13 ∨ t.kind = 14 then t.type.valid else t.type.isNo) &&
  (if t.kind = 14 then onT T.cons t.frm t.type && lab t.label else t.frm.isNo && t.label == 0))))
noncomputable def Tm.shape (no : Int) : Nat → Tm → Bool
  | 0, _ => false
  | d + 1, t => t.kind != no && (t.nodeOk && t.kids.all (Tm.shape no d))
noncomputable def Tm.castV (t : Tm) : Bool := t.shape 13 40 && decide (t.nodes ≤ 200)

/-! ### forms -/
inductive E where
  | var (x : UInt8) | num (n : Int) | tru | fls | lam (x : UInt8) (t : T) (e : E) | app (a b : E) | add (a b : E) | less (a b : E) | ite (a b c : E) | pair (a b : E) | fst (a : E) | snd (a : E) | asc (t : T) (a : E) | cast (s t : T) (l : Int) (a : E)
/-- a node with no name, no number, no types, no label -/
def nd (k : Int) (l : List Tm) : Tm := .mk k ByteArray.empty 0 noTy noTy 0 l
def E.tm : E → Tm
  | .var x => .mk 1 (nm x) 0 noTy noTy 0 []
  | .num n => .mk 2 ByteArray.empty n noTy noTy 0 []
  | .tru => nd 3 []
  | .fls => nd 4 []
  | .lam x t e => .mk 5 (nm x) 0 t.ty noTy 0 [e.tm]
  | .app a b => nd 6 [a.tm, b.tm]
  | .add a b => nd 7 [a.tm, b.tm]
  | .less a b => nd 8 [a.tm, b.tm]
  | .ite a b c => nd 9 [a.tm, b.tm, c.tm]
  | .pair a b => nd 10 [a.tm, b.tm]
  | .fst a => nd 11 [a.tm]
  | .snd a => nd 12 [a.tm]
  | .asc t a => .mk 13 ByteArray.empty 0 t.ty noTy 0 [a.tm]
  | .cast s t l a => .mk 14 ByteArray.empty 0 t.ty s.ty l [a.tm]
def E.kids : E → List E
  | .var _ | .num _ | .tru | .fls => []
  | .lam _ _ a | .fst a | .snd a | .asc _ a | .cast _ _ _ a => [a]
  | .app a b | .add a b | .less a b | .pair a b => [a, b]
  | .ite a b c => [a, b, c]
def E.wf : E → Bool
  | .var x => nmB x
  | .num n => decide (0 ≤ n) && decide (n ≤ 999)
  | .tru | .fls => true
  | .lam x t a => nmB x && (decide (t.depth ≤ 4) && a.wf)
  | .app a b | .add a b | .less a b | .pair a b => a.wf && b.wf
  | .ite a b c => a.wf && (b.wf && c.wf)
  | .fst a | .snd a => a.wf
  | .asc t a => decide (t.depth ≤ 4) && a.wf
  | .cast s t l a => (decide (s.depth ≤ 4) && decide (t.depth ≤ 4)) && (s.cons t && (lab l && a.wf))
def E.noA : E → Bool
  | .var _ | .num _ | .tru | .fls => true
  | .lam _ _ a | .fst a | .snd a | .cast _ _ _ a => a.noA
  | .app a b | .add a b | .less a b | .pair a b => a.noA && b.noA
  | .ite a b c => a.noA && (b.noA && c.noA)
  | .asc _ _ => false
def E.depth : E → Nat
  | .var _ | .num _ | .tru | .fls => 1
  | .lam _ _ a | .fst a | .snd a | .asc _ a | .cast _ _ _ a => a.depth + 1
  | .app a b | .add a b | .less a b | .pair a b => max a.depth b.depth + 1
  | .ite a b c => max a.depth (max b.depth c.depth) + 1
def E.nodes : E → Nat
  | .var _ | .num _ | .tru | .fls => 1
  | .lam _ _ a | .fst a | .snd a | .asc _ a | .cast _ _ _ a => 1 + a.nodes
  | .app a b | .add a b | .less a b | .pair a b => 1 + (a.nodes + b.nodes)
  | .ite a b c => 1 + (a.nodes + (b.nodes + c.nodes))
theorem E.tm_nodes (e : E) : e.tm.nodes = e.nodes := by
  induction e <;> simp only [E.tm, nd, Tm.nodes, Tm.nodess, E.nodes, *] <;> omega
theorem noTy_isNo : noTy.isNo = true := rfl
theorem onT_cons_ty (x y : T) : onT T.cons x.ty y.ty = (decide (x.depth ≤ 4) && (decide (y.depth ≤ 4) && x.cons y)) := by
  have h : ∀ t : T, t.ty.valid = decide (t.depth ≤ 4) := fun t => T.shape_ty t 4
  by_cases hx : x.depth ≤ 4
  · by_cases hy : y.depth ≤ 4
    · rw [onT_ty _ hx hy]; simp [hx, hy]
    · rw [onT_off _ (by simp [h, hy])]; simp [hy]
  · rw [onT_off _ (by simp [h, hx])]; simp [hx]
theorem T.valid_ty (t : T) : t.ty.valid = decide (t.depth ≤ 4) := T.shape_ty t 4
theorem E.nodeOk_tm (e : E) : e.tm.nodeOk = (match e with
  | .var x => nmB x | .num n => decide (0 ≤ n) && decide (n ≤ 999) | .lam x t _ => nmB x && decide (t.depth ≤ 4) | .asc t _ => decide (t.depth ≤ 4)
  | .cast s t l _ => (decide (s.depth ≤ 4) && decide (t.depth ≤ 4)) && (s.cons t && lab l) | _ => true) := by
  cases e <;> simp [Tm.nodeOk, E.tm, nd, Tm.kind, Tm.name, Tm.num, Tm.type, Tm.frm, Tm.label, Tm.kids, opN, nmOk_nm, noTy_isNo, T.valid_ty, onT_cons_ty, bs_empty_size, -ByteArray.size_data]
  all_goals (try grind)
end Go.Proofs.Grad
