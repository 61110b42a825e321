/- What is handed over at a call, and what comes back. -/
import Derived.Test.YtkkijdlgmlffoaaShT
namespace Go.Proofs.Sh
open Go.RowKit

/-- cells that name none of the own blocks -/
def C.tree : C → Bool
  | .top => true
  | .sc (.slice none 0 0) => false
  | .sc _ => true
  | .sl _ => true
  | _ => false
def treeL (cs : List C) : Bool := cs.all C.tree
def treeRows (rows : List (List C)) : Bool := rows.all treeL

def fzL (f : C → Option (C × List Nat)) : List C → Option (List C × List Nat)
  | [] => some ([], [])
  | c :: cs => match f c, fzL f cs with
    | some (c', i), some (cs', j) => some (c' :: cs', i ++ j)
    | _, _ => none
def fzRows (f : C → Option (C × List Nat)) : List (List C) → Option (List (List C) × List Nat)
  | [] => some ([], [])
  | r :: rows => match fzL f r, fzRows f rows with
    | some (r', i), some (rows', j) => some (r' :: rows', i ++ j)
    | _, _ => none
/-- a cell as a tree, and the own blocks that may then be written no more -/
def fz (h : List Blk) : Nat → C → Option (C × List Nat)
  | _, .top => some (.top, [])
  | _, .sc (.slice none 0 0) => some (.sl [], [])
  | _, .sc v => some (.sc v, [])
  | _, .sl rows => some (.sl rows, [])
  | d + 1, .row _ b n => match h[b]? with
    | some k => if k.st.known = true ∧ k.rows.length = n then
        (if treeRows k.rows then some (.sl k.rows, [b]) else match fzRows (fz h d) k.rows with
          | some (rows, ids) => some (.sl rows, b :: ids)
          | none => none)
      else none
    | none => none
  | _, _ => none

theorem C.rep_tree {L μ : List Nat} {w : World} {c : C} {u : Value} (ht : c.tree = true) (h : C.rep L μ w c u) : C.rep L [] w c u := by
  cases c <;> first | (simp [C.tree] at ht; done) | (simp only [C.rep] at h ⊢; exact h)
theorem C.repl_tree {L μ : List Nat} {w : World} : ∀ {cs : List C} {us : List Value}, treeL cs = true → C.repl L μ w cs us → C.repl L [] w cs us
  | [], us, _, h => by simpa [C.repl] using h
  | c :: cs, us, ht, h => by
    simp only [treeL, List.all_cons, Bool.and_eq_true] at ht
    simp only [C.repl] at h ⊢
    obtain ⟨u, us', h1, h2, h3⟩ := h
    exact ⟨u, us', h1, C.rep_tree ht.1 h2, C.repl_tree ht.2 h3⟩

theorem fzL_get {f : C → Option (C × List Nat)} : ∀ {cs cs' : List C} {ids : List Nat}, fzL f cs = some (cs', ids) → cs'.length = cs.length ∧ ∀ (j : Nat) (c' : C), cs'[j]? = some c' → ∃ c i, cs[j]? = some c ∧ f c = some (c', i) ∧ ∀ b ∈ i, b ∈ ids
  | [], cs', ids, h => by
    simp only [fzL, Option.some.injEq, Prod.mk.injEq] at h
    obtain ⟨rfl, rfl⟩ := h
    simp
  | c :: cs, cs', ids, h => by
    simp only [fzL] at h
    split at h
    · rename_i c1 i cs1 j h1 h2
      simp only [Option.some.injEq, Prod.mk.injEq] at h
      obtain ⟨rfl, rfl⟩ := h
      obtain ⟨q1, q2⟩ := fzL_get h2
      refine ⟨by simp [q1], fun m c' hm => ?_⟩
      cases m with
      | zero => simp at hm; subst hm; exact ⟨c, i, rfl, h1, fun b hb => by simp [hb]⟩
      | succ m =>
        obtain ⟨c2, i2, e1, e2, e3⟩ := q2 m c' (by simpa using hm)
        exact ⟨c2, i2, by simpa using e1, e2, fun b hb => by simp [e3 b hb]⟩
    · cases h
theorem fzRows_get {f : C → Option (C × List Nat)} : ∀ {rows rows' : List (List C)} {ids : List Nat}, fzRows f rows = some (rows', ids) → rows'.length = rows.length ∧ ∀ (j : Nat) (r' : List C), rows'[j]? = some r' → ∃ r i, rows[j]? = some r ∧ fzL f r = some (r', i) ∧ ∀ b ∈ i, b ∈ ids
  | [], cs', ids, h => by
    simp only [fzRows, Option.some.injEq, Prod.mk.injEq] at h
    obtain ⟨rfl, rfl⟩ := h
    simp
  | c :: cs, cs', ids, h => by
    simp only [fzRows] at h
    split at h
    · rename_i c1 i cs1 j h1 h2
      simp only [Option.some.injEq, Prod.mk.injEq] at h
      obtain ⟨rfl, rfl⟩ := h
      obtain ⟨q1, q2⟩ := fzRows_get h2
      refine ⟨by simp [q1], fun m c' hm => ?_⟩
      cases m with
      | zero => simp at hm; subst hm; exact ⟨c, i, rfl, h1, fun b hb => by simp [hb]⟩
      | succ m =>
        obtain ⟨c2, i2, e1, e2, e3⟩ := q2 m c' (by simpa using hm)
        exact ⟨c2, i2, by simpa using e1, e2, fun b hb => by simp [e3 b hb]⟩
    · cases h

section
variable {X μ : List Nat} {h : List Blk} {w : World}

/-- rows of an own block as rows of trees -/
theorem Laid.trees {L L' : List Nat} {cur : Array Value} {s g : Nat} {ty : TypeId} {rows rows' : List (List C)} (hl : Laid L μ w cur s rows) (hg : w.heap[g]? = some (.cells cur ty (0, 0)))
    (hlen : rows'.length = rows.length) (hr : ∀ (i : Nat) (r' : List C), rows'[i]? = some r' → ∃ r, rows[i]? = some r ∧ r'.length = r.length ∧ ∀ (j : Nat) (c' : C), r'[j]? = some c' → ∃ c, r[j]? = some c ∧ ∀ u, C.rep L μ w c u → C.rep L' [] w c' u) : Laid L' [] w cur s rows' := by
  intro i r' hi
  obtain ⟨r, h1, h2, h3⟩ := hr i r' hi
  obtain ⟨q1, q2⟩ := hl i r h1
  refine ⟨by rw [h2, q1], fun j c' hj => ?_⟩
  obtain ⟨c, e1, e2⟩ := h3 j c' hj
  obtain ⟨u, hu, hv⟩ := q2 j c e1
  exact ⟨u, hu, e2 u hv⟩

theorem C.rep.sub {L L' μ : List Nat} {w : World} {c : C} {u : Value} (hs : ∀ x, x ∈ L' → x ∈ L) (h : C.rep L μ w c u) : C.rep L' μ w c u :=
  C.rep.carry (K := []) ⟨Keep.refl _ _, fun _ _ _ => by simp, fun x _ hx hm => hx (hs x hm), fun _ _ h => h⟩ h

theorem fz_sound (hS : Sim X μ h w) {L' : List Nat} (hL : ∀ x, x ∈ L' → x ∈ X ++ alive μ h) : ∀ (d : Nat) (c c' : C) (ids : List Nat) (u : Value), fz h d c = some (c', ids) → (∀ b ∈ ids, ∀ g, μ[b]? = some g → g ∉ L') → C.rep (X ++ alive μ h) μ w c u → C.rep L' [] w c' u := by
  intro d
  induction d with
  | zero =>
    intro c c' ids u hf hids hr
    unfold fz at hf
    split at hf <;> (try (cases hf; done))
    · injection hf with hf; simp only [Prod.mk.injEq] at hf; obtain ⟨rfl, rfl⟩ := hf; simpa [C.rep] using hr
    · injection hf with hf; simp only [Prod.mk.injEq] at hf; obtain ⟨rfl, rfl⟩ := hf
      simp only [C.rep] at hr ⊢; exact ⟨none, 0, by simpa using hr.1, by simp, by simp [maxLen], .inl trivial⟩
    · injection hf with hf; simp only [Prod.mk.injEq] at hf; obtain ⟨rfl, rfl⟩ := hf; simpa [C.rep] using hr
    · injection hf with hf; simp only [Prod.mk.injEq] at hf; obtain ⟨rfl, rfl⟩ := hf
      have := C.rep.sub hL hr
      simp only [C.rep] at this ⊢; exact this
    · rename_i hd; cases hd
  | succ d ih =>
    intro c c' ids u hf hids hr
    unfold fz at hf
    split at hf <;> (try (cases hf; done))
    · injection hf with hf; simp only [Prod.mk.injEq] at hf; obtain ⟨rfl, rfl⟩ := hf; simpa [C.rep] using hr
    · injection hf with hf; simp only [Prod.mk.injEq] at hf; obtain ⟨rfl, rfl⟩ := hf
      simp only [C.rep] at hr ⊢; exact ⟨none, 0, by simpa using hr.1, by simp, by simp [maxLen], .inl trivial⟩
    · injection hf with hf; simp only [Prod.mk.injEq] at hf; obtain ⟨rfl, rfl⟩ := hf; simpa [C.rep] using hr
    · injection hf with hf; simp only [Prod.mk.injEq] at hf; obtain ⟨rfl, rfl⟩ := hf
      have := C.rep.sub hL hr
      simp only [C.rep] at this ⊢; exact this
    · rename_i d' sx b n hd
      obtain rfl : d = d' := by omega
      split at hf
      · rename_i k hb
        split at hf
        · rename_i hk
          simp only [C.rep] at hr
          obtain ⟨g, cap, hg, rfl, hnc, hcm, _⟩ := hr
          obtain ⟨cur, hc, hl⟩ := hS.blk b k g hb hk.1 hg
          have hglt := hS.lt g (List.mem_of_getElem? hg)
          have fin : ∀ (rows' : List (List C)), rows'.length = k.rows.length → Laid L' [] w cur k.s rows' → g ∉ L' → C.rep L' [] w (.sl rows') (.slice (some ⟨g, 0, none⟩) n cap) := by
            intro rows' hlen hl' hgL
            simp only [C.rep]
            have : rows'.length = n := by rw [hlen, hk.2]
            exact ⟨_, cap, by rw [this], by omega, hcm, .inr ⟨g, 0, k.s, rfl, hglt, hgL, hl'.repss hc⟩⟩
          split at hf
          · rename_i ht
            injection hf with hf; simp only [Prod.mk.injEq] at hf; obtain ⟨rfl, rfl⟩ := hf
            refine fin k.rows rfl (hl.trees hc rfl fun i r' hi => ⟨r', hi, rfl, fun j c' hj => ⟨c', hj, fun u hu => ?_⟩⟩) (hids b (by simp) g hg)
            have h1 := List.all_eq_true.1 ht r' (List.mem_of_getElem? hi)
            have h2 := List.all_eq_true.1 h1 c' (List.mem_of_getElem? hj)
            exact C.rep_tree h2 (C.rep.sub hL hu)
          · split at hf
            · rename_i rows' ids' hfr
              injection hf with hf; simp only [Prod.mk.injEq] at hf; obtain ⟨rfl, rfl⟩ := hf
              obtain ⟨e1, e2⟩ := fzRows_get hfr
              refine fin rows' e1 (hl.trees hc e1 fun i r' hi => ?_) (hids b (by simp) g hg)
              obtain ⟨r, i1, q1, q2, q3⟩ := e2 i r' hi
              obtain ⟨q4, q5⟩ := fzL_get q2
              refine ⟨r, q1, q4, fun j c' hj => ?_⟩
              obtain ⟨c, i2, p1, p2, p3⟩ := q5 j c' hj
              exact ⟨c, p1, fun u hu => ih c c' i2 u p2 (fun b hb => hids b (by simp [q3 b (p3 b hb)])) hu⟩
            · cases hf
        · cases hf
      · cases hf
end

/-! ### freezing -/
def Blk.frz (k : Blk) : Blk := ⟨k.s, k.ty, .frz, k.rows⟩
def frzAt : List Nat → List Blk → List Blk
  | [], h => h
  | b :: ids, h => frzAt ids (match h[b]? with | some k => h.set b k.frz | none => h)

theorem Sim.frz {X μ : List Nat} {H : List Blk} {w : World} {b : Nat} {k : Blk} (h : Sim X μ H w) (hb : H[b]? = some k) (hk : k.st.known = true) : Sim X μ (H.set b k.frz) w ∧ Stp μ H w μ (H.set b k.frz) w := by
  have hmem : ∀ x, x ∈ alive μ (H.set b k.frz) → x ∈ alive μ H := fun x hx => by
    obtain ⟨i, q, h1, h2, h3⟩ := mem_alive.1 hx
    rcases (set_get hb).1 h2 with ⟨rfl, rfl⟩ | ⟨_, h2⟩
    · cases h3
    · exact mem_alive.2 ⟨i, q, h1, h2, h3⟩
  have hS : Stp μ H w μ (H.set b k.frz) w := ⟨Keep.refl _ _, fun _ _ e => e, fun x hx _ => hmem x hx⟩
  refine ⟨⟨by simp [h.len], h.lt, h.xlt, ?_, ?_, ?_⟩, hS⟩
  · intro i q g hi hq hg
    rcases (set_get hb).1 hi with ⟨rfl, rfl⟩ | ⟨_, hi⟩
    · exact h.out i k g hb hk hg
    · exact h.out i q g hi hq hg
  · intro i j q q' g hij hi hj hq hq' hgi hgj
    rcases (set_get hb).1 hi with ⟨rfl, rfl⟩ | ⟨_, hi2⟩
    · cases hq
    · rcases (set_get hb).1 hj with ⟨rfl, rfl⟩ | ⟨_, hj⟩
      · exact h.inj i j q k g hij hi2 hb hq hk hgi hgj
      · exact h.inj i j q q' g hij hi2 hj hq hq' hgi hgj
  · intro i q g hi hq hg
    rcases (set_get hb).1 hi with ⟨rfl, rfl⟩ | ⟨_, hi⟩
    · obtain ⟨c, h1, h2⟩ := h.blk i k g hb hk hg
      exact ⟨c, h1, h2.carry hS.carry⟩
    · obtain ⟨c, h1, h2⟩ := h.blk i q g hi hq hg
      exact ⟨c, h1, h2.carry hS.carry⟩

/-- the same block, but for how far it may be written -/
def Blk.le (k' k : Blk) : Prop := k'.s = k.s ∧ k'.ty = k.ty ∧ k'.rows = k.rows ∧ k'.st.known = k.st.known ∧ (k'.st.isMut = true → k.st.isMut = true)
theorem Blk.le_refl (k : Blk) : k.le k := ⟨rfl, rfl, rfl, rfl, id⟩
theorem Blk.le_trans {a b c : Blk} (h : a.le b) (k : b.le c) : a.le c := ⟨h.1.trans k.1, h.2.1.trans k.2.1, h.2.2.1.trans k.2.2.1, h.2.2.2.1.trans k.2.2.2.1, fun x => k.2.2.2.2 (h.2.2.2.2 x)⟩

theorem frzAt_spec {X μ : List Nat} {w : World} : ∀ (ids : List Nat) {H : List Blk}, Sim X μ H w → (∀ b ∈ ids, ∃ k, H[b]? = some k ∧ k.st.known = true) →
    Sim X μ (frzAt ids H) w ∧ Stp μ H w μ (frzAt ids H) w ∧ (frzAt ids H).length = H.length ∧ (∀ (i : Nat) (k : Blk), H[i]? = some k → ∃ k', (frzAt ids H)[i]? = some k' ∧ k'.le k ∧ (i ∈ ids → k'.st.isMut = false) ∧ (i ∉ ids → k' = k))
  | [], H, h, _ => ⟨h, Stp.refl _ _ _, rfl, fun i k hi => ⟨k, hi, Blk.le_refl k, by simp, fun _ => rfl⟩⟩
  | b :: ids, H, h, hk => by
    obtain ⟨k, hb, hkn⟩ := hk b (by simp)
    obtain ⟨h1, h2⟩ := h.frz hb hkn
    have hle : k.frz.le k := ⟨rfl, rfl, rfl, by rw [hkn]; rfl, fun e => by cases e⟩
    obtain ⟨q1, q2, q3, q4⟩ := frzAt_spec ids h1 (fun b' hb' => by
      obtain ⟨k', e1, e2⟩ := hk b' (by simp [hb'])
      by_cases e : b' = b
      · subst e; exact ⟨k.frz, (set_get hb).2 (.inl ⟨rfl, rfl⟩), rfl⟩
      · exact ⟨k', (set_get hb).2 (.inr ⟨e, e1⟩), e2⟩)
    simp only [frzAt, hb]
    refine ⟨q1, h2.trans q2, by rw [q3]; simp, fun i k0 hi => ?_⟩
    by_cases e : i = b
    · subst e
      rw [hb] at hi; cases hi
      obtain ⟨k', p1, p2, p3, p4⟩ := q4 i k.frz ((set_get hb).2 (.inl ⟨rfl, rfl⟩))
      refine ⟨k', p1, Blk.le_trans p2 hle, fun _ => ?_, fun hn => absurd (by simp) hn⟩
      cases hm : k'.st.isMut
      · rfl
      · have := p2.2.2.2.2 hm; cases this
    · obtain ⟨k', p1, p2, p3, p4⟩ := q4 i k0 ((set_get hb).2 (.inr ⟨e, hi⟩))
      exact ⟨k', p1, p2, fun hm => by
        rcases List.mem_cons.1 hm with hm | hm
        · exact absurd hm e
        · exact p3 hm, fun hn => p4 (fun hm => hn (by simp [hm]))⟩
end Go.Proofs.Sh
