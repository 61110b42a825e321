/- Texts of the proof, one behind another. -/
import Derived.Laws.BytesString
import Derived.Test.YtnaebafafhamjaaK2
set_option linter.unusedSimpArgs false
set_option linter.unusedVariables false
/- What is handed over at a call, and what comes back. -/
namespace Go.Proofs.Sh
open Go.RowKit

/-- cells that name none of the own blocks -/
def C.tree : C → Bool
  | .top => true
  | .sc (.slice none 0 0) => false
  | .sc _ => true
  | .sl _ => true
  | _ => false
def treeL (cs : List C) : Bool := cs.all C.tree
def treeRows (rows : List (List C)) : Bool := rows.all treeL

def fzL (f : C → Option (C × List Nat)) : List C → Option (List C × List Nat)
  | [] => some ([], [])
  | c :: cs => match f c, fzL f cs with
    | some (c', i), some (cs', j) => some (c' :: cs', i ++ j)
    | _, _ => none
def fzRows (f : C → Option (C × List Nat)) : List (List C) → Option (List (List C) × List Nat)
  | [] => some ([], [])
  | r :: rows => match fzL f r, fzRows f rows with
    | some (r', i), some (rows', j) => some (r' :: rows', i ++ j)
    | _, _ => none
/-- a cell as a tree, and the own blocks that may then be written no more -/
def fz (h : List Blk) : Nat → C → Option (C × List Nat)
  | _, .top => some (.top, [])
  | _, .sc (.slice none 0 0) => some (.sl [], [])
  | _, .sc v => some (.sc v, [])
  | _, .sl rows => some (.sl rows, [])
  | d + 1, .row _ b n => match h[b]? with
    | some k => if k.st.known = true ∧ k.rows.length = n then
        (if treeRows k.rows then some (.sl k.rows, [b]) else match fzRows (fz h d) k.rows with
          | some (rows, ids) => some (.sl rows, b :: ids)
          | none => none)
      else none
    | none => none
  | _, _ => none

theorem C.rep_tree {L μ : List Nat} {w : World} {c : C} {u : Value} (ht : c.tree = true) (h : C.rep L μ w c u) : C.rep L [] w c u := by
  cases c <;> first | (simp [C.tree] at ht; done) | (simp only [C.rep] at h ⊢; exact h)
theorem C.repl_tree {L μ : List Nat} {w : World} : ∀ {cs : List C} {us : List Value}, treeL cs = true → C.repl L μ w cs us → C.repl L [] w cs us
  | [], us, _, h => by simpa [C.repl] using h
  | c :: cs, us, ht, h => by
    simp only [treeL, List.all_cons, Bool.and_eq_true] at ht
    simp only [C.repl] at h ⊢
    obtain ⟨u, us', h1, h2, h3⟩ := h
    exact ⟨u, us', h1, C.rep_tree ht.1 h2, C.repl_tree ht.2 h3⟩

theorem fzL_get {f : C → Option (C × List Nat)} : ∀ {cs cs' : List C} {ids : List Nat}, fzL f cs = some (cs', ids) → cs'.length = cs.length ∧ ∀ (j : Nat) (c' : C), cs'[j]? = some c' → ∃ c i, cs[j]? = some c ∧ f c = some (c', i) ∧ ∀ b ∈ i, b ∈ ids
  | [], cs', ids, h => by
    simp only [fzL, Option.some.injEq, Prod.mk.injEq] at h
    obtain ⟨rfl, rfl⟩ := h
    simp
  | c :: cs, cs', ids, h => by
    simp only [fzL] at h
    split at h
    · rename_i c1 i cs1 j h1 h2
      simp only [Option.some.injEq, Prod.mk.injEq] at h
      obtain ⟨rfl, rfl⟩ := h
      obtain ⟨q1, q2⟩ := fzL_get h2
      refine ⟨by simp [q1], fun m c' hm => ?_⟩
      cases m with
      | zero => simp at hm; subst hm; exact ⟨c, i, rfl, h1, fun b hb => by simp [hb]⟩
      | succ m =>
        obtain ⟨c2, i2, e1, e2, e3⟩ := q2 m c' (by simpa using hm)
        exact ⟨c2, i2, by simpa using e1, e2, fun b hb => by simp [e3 b hb]⟩
    · cases h
theorem fzRows_get {f : C → Option (C × List Nat)} : ∀ {rows rows' : List (List C)} {ids : List Nat}, fzRows f rows = some (rows', ids) → rows'.length = rows.length ∧ ∀ (j : Nat) (r' : List C), rows'[j]? = some r' → ∃ r i, rows[j]? = some r ∧ fzL f r = some (r', i) ∧ ∀ b ∈ i, b ∈ ids
  | [], cs', ids, h => by
    simp only [fzRows, Option.some.injEq, Prod.mk.injEq] at h
    obtain ⟨rfl, rfl⟩ := h
    simp
  | c :: cs, cs', ids, h => by
    simp only [fzRows] at h
    split at h
    · rename_i c1 i cs1 j h1 h2
      simp only [Option.some.injEq, Prod.mk.injEq] at h
      obtain ⟨rfl, rfl⟩ := h
      obtain ⟨q1, q2⟩ := fzRows_get h2
      refine ⟨by simp [q1], fun m c' hm => ?_⟩
      cases m with
      | zero => simp at hm; subst hm; exact ⟨c, i, rfl, h1, fun b hb => by simp [hb]⟩
      | succ m =>
        obtain ⟨c2, i2, e1, e2, e3⟩ := q2 m c' (by simpa using hm)
        exact ⟨c2, i2, by simpa using e1, e2, fun b hb => by simp [e3 b hb]⟩
    · cases h

section
variable {X μ : List Nat} {h : List Blk} {w : World}

/-- rows of an own block as rows of trees -/
theorem Laid.trees {L L' : List Nat} {cur : Array Value} {s g : Nat} {ty : TypeId} {rows rows' : List (List C)} (hl : Laid L μ w cur s rows) (hg : w.heap[g]? = some (.cells cur ty (0, 0)))
    (hlen : rows'.length = rows.length) (hr : ∀ (i : Nat) (r' : List C), rows'[i]? = some r' → ∃ r, rows[i]? = some r ∧ r'.length = r.length ∧ ∀ (j : Nat) (c' : C), r'[j]? = some c' → ∃ c, r[j]? = some c ∧ ∀ u, C.rep L μ w c u → C.rep L' [] w c' u) : Laid L' [] w cur s rows' := by
  intro i r' hi
  obtain ⟨r, h1, h2, h3⟩ := hr i r' hi
  obtain ⟨q1, q2⟩ := hl i r h1
  refine ⟨by rw [h2, q1], fun j c' hj => ?_⟩
  obtain ⟨c, e1, e2⟩ := h3 j c' hj
  obtain ⟨u, hu, hv⟩ := q2 j c e1
  exact ⟨u, hu, e2 u hv⟩

theorem C.rep.sub {L L' μ : List Nat} {w : World} {c : C} {u : Value} (hs : ∀ x, x ∈ L' → x ∈ L) (h : C.rep L μ w c u) : C.rep L' μ w c u :=
  C.rep.carry (K := []) ⟨Keep.refl _ _, fun _ _ _ => by simp, fun x _ hx hm => hx (hs x hm), fun _ _ h => h⟩ h

theorem fz_sound (hS : Sim X μ h w) {L' : List Nat} (hL : ∀ x, x ∈ L' → x ∈ X ++ alive μ h) : ∀ (d : Nat) (c c' : C) (ids : List Nat) (u : Value), fz h d c = some (c', ids) → (∀ b ∈ ids, ∀ g, μ[b]? = some g → g ∉ L') → C.rep (X ++ alive μ h) μ w c u → C.rep L' [] w c' u := by
  intro d
  induction d with
  | zero =>
    intro c c' ids u hf hids hr
    unfold fz at hf
    split at hf <;> (try (cases hf; done))
    · injection hf with hf; simp only [Prod.mk.injEq] at hf; obtain ⟨rfl, rfl⟩ := hf; simpa [C.rep] using hr
    · injection hf with hf; simp only [Prod.mk.injEq] at hf; obtain ⟨rfl, rfl⟩ := hf
      simp only [C.rep] at hr ⊢; exact ⟨none, 0, by simpa using hr.1, by simp, by simp [maxLen], .inl trivial⟩
    · injection hf with hf; simp only [Prod.mk.injEq] at hf; obtain ⟨rfl, rfl⟩ := hf; simpa [C.rep] using hr
    · injection hf with hf; simp only [Prod.mk.injEq] at hf; obtain ⟨rfl, rfl⟩ := hf
      have := C.rep.sub hL hr
      simp only [C.rep] at this ⊢; exact this
    · rename_i hd; cases hd
  | succ d ih =>
    intro c c' ids u hf hids hr
    unfold fz at hf
    split at hf <;> (try (cases hf; done))
    · injection hf with hf; simp only [Prod.mk.injEq] at hf; obtain ⟨rfl, rfl⟩ := hf; simpa [C.rep] using hr
    · injection hf with hf; simp only [Prod.mk.injEq] at hf; obtain ⟨rfl, rfl⟩ := hf
      simp only [C.rep] at hr ⊢; exact ⟨none, 0, by simpa using hr.1, by simp, by simp [maxLen], .inl trivial⟩
    · injection hf with hf; simp only [Prod.mk.injEq] at hf; obtain ⟨rfl, rfl⟩ := hf; simpa [C.rep] using hr
    · injection hf with hf; simp only [Prod.mk.injEq] at hf; obtain ⟨rfl, rfl⟩ := hf
      have := C.rep.sub hL hr
      simp only [C.rep] at this ⊢; exact this
    · rename_i d' sx b n hd
      obtain rfl : d = d' := by omega
      split at hf
      · rename_i k hb
        split at hf
        · rename_i hk
          simp only [C.rep] at hr
          obtain ⟨g, cap, hg, rfl, hnc, hcm, _⟩ := hr
          obtain ⟨cur, hc, hl⟩ := hS.blk b k g hb hk.1 hg
          have hglt := hS.lt g (List.mem_of_getElem? hg)
          have fin : ∀ (rows' : List (List C)), rows'.length = k.rows.length → Laid L' [] w cur k.s rows' → g ∉ L' → C.rep L' [] w (.sl rows') (.slice (some ⟨g, 0, none⟩) n cap) := by
            intro rows' hlen hl' hgL
            simp only [C.rep]
            have : rows'.length = n := by rw [hlen, hk.2]
            exact ⟨_, cap, by rw [this], by omega, hcm, .inr ⟨g, 0, k.s, rfl, hglt, hgL, hl'.repss hc⟩⟩
          split at hf
          · rename_i ht
            injection hf with hf; simp only [Prod.mk.injEq] at hf; obtain ⟨rfl, rfl⟩ := hf
            refine fin k.rows rfl (hl.trees hc rfl fun i r' hi => ⟨r', hi, rfl, fun j c' hj => ⟨c', hj, fun u hu => ?_⟩⟩) (hids b (by simp) g hg)
            have h1 := List.all_eq_true.1 ht r' (List.mem_of_getElem? hi)
            have h2 := List.all_eq_true.1 h1 c' (List.mem_of_getElem? hj)
            exact C.rep_tree h2 (C.rep.sub hL hu)
          · split at hf
            · rename_i rows' ids' hfr
              injection hf with hf; simp only [Prod.mk.injEq] at hf; obtain ⟨rfl, rfl⟩ := hf
              obtain ⟨e1, e2⟩ := fzRows_get hfr
              refine fin rows' e1 (hl.trees hc e1 fun i r' hi => ?_) (hids b (by simp) g hg)
              obtain ⟨r, i1, q1, q2, q3⟩ := e2 i r' hi
              obtain ⟨q4, q5⟩ := fzL_get q2
              refine ⟨r, q1, q4, fun j c' hj => ?_⟩
              obtain ⟨c, i2, p1, p2, p3⟩ := q5 j c' hj
              exact ⟨c, p1, fun u hu => ih c c' i2 u p2 (fun b hb => hids b (by simp [q3 b (p3 b hb)])) hu⟩
            · cases hf
        · cases hf
      · cases hf
end

/-! ### freezing -/
def Blk.frz (k : Blk) : Blk := ⟨k.s, k.ty, .frz, k.rows⟩
def frzAt : List Nat → List Blk → List Blk
  | [], h => h
  | b :: ids, h => frzAt ids (match h[b]? with | some k => h.set b k.frz | none => h)

theorem Sim.frz {X μ : List Nat} {H : List Blk} {w : World} {b : Nat} {k : Blk} (h : Sim X μ H w) (hb : H[b]? = some k) (hk : k.st.known = true) : Sim X μ (H.set b k.frz) w ∧ Stp μ H w μ (H.set b k.frz) w := by
  have hmem : ∀ x, x ∈ alive μ (H.set b k.frz) → x ∈ alive μ H := fun x hx => by
    obtain ⟨i, q, h1, h2, h3⟩ := mem_alive.1 hx
    rcases (set_get hb).1 h2 with ⟨rfl, rfl⟩ | ⟨_, h2⟩
    · cases h3
    · exact mem_alive.2 ⟨i, q, h1, h2, h3⟩
  have hS : Stp μ H w μ (H.set b k.frz) w := ⟨Keep.refl _ _, fun _ _ e => e, fun x hx _ => hmem x hx⟩
  refine ⟨⟨by simp [h.len], h.lt, h.xlt, ?_, ?_, ?_⟩, hS⟩
  · intro i q g hi hq hg
    rcases (set_get hb).1 hi with ⟨rfl, rfl⟩ | ⟨_, hi⟩
    · exact h.out i k g hb hk hg
    · exact h.out i q g hi hq hg
  · intro i j q q' g hij hi hj hq hq' hgi hgj
    rcases (set_get hb).1 hi with ⟨rfl, rfl⟩ | ⟨_, hi2⟩
    · cases hq
    · rcases (set_get hb).1 hj with ⟨rfl, rfl⟩ | ⟨_, hj⟩
      · exact h.inj i j q k g hij hi2 hb hq hk hgi hgj
      · exact h.inj i j q q' g hij hi2 hj hq hq' hgi hgj
  · intro i q g hi hq hg
    rcases (set_get hb).1 hi with ⟨rfl, rfl⟩ | ⟨_, hi⟩
    · obtain ⟨c, h1, h2⟩ := h.blk i k g hb hk hg
      exact ⟨c, h1, h2.carry hS.carry⟩
    · obtain ⟨c, h1, h2⟩ := h.blk i q g hi hq hg
      exact ⟨c, h1, h2.carry hS.carry⟩

/-- the same block, but for how far it may be written -/
def Blk.le (k' k : Blk) : Prop := k'.s = k.s ∧ k'.ty = k.ty ∧ k'.rows = k.rows ∧ k'.st.known = k.st.known ∧ (k'.st.isMut = true → k.st.isMut = true)
theorem Blk.le_refl (k : Blk) : k.le k := ⟨rfl, rfl, rfl, rfl, id⟩
theorem Blk.le_trans {a b c : Blk} (h : a.le b) (k : b.le c) : a.le c := ⟨h.1.trans k.1, h.2.1.trans k.2.1, h.2.2.1.trans k.2.2.1, h.2.2.2.1.trans k.2.2.2.1, fun x => k.2.2.2.2 (h.2.2.2.2 x)⟩

theorem frzAt_spec {X μ : List Nat} {w : World} : ∀ (ids : List Nat) {H : List Blk}, Sim X μ H w → (∀ b ∈ ids, ∃ k, H[b]? = some k ∧ k.st.known = true) →
    Sim X μ (frzAt ids H) w ∧ Stp μ H w μ (frzAt ids H) w ∧ (frzAt ids H).length = H.length ∧ (∀ (i : Nat) (k : Blk), H[i]? = some k → ∃ k', (frzAt ids H)[i]? = some k' ∧ k'.le k ∧ (i ∈ ids → k'.st.isMut = false) ∧ (i ∉ ids → k' = k))
  | [], H, h, _ => ⟨h, Stp.refl _ _ _, rfl, fun i k hi => ⟨k, hi, Blk.le_refl k, by simp, fun _ => rfl⟩⟩
  | b :: ids, H, h, hk => by
    obtain ⟨k, hb, hkn⟩ := hk b (by simp)
    obtain ⟨h1, h2⟩ := h.frz hb hkn
    have hle : k.frz.le k := ⟨rfl, rfl, rfl, by rw [hkn]; rfl, fun e => by cases e⟩
    obtain ⟨q1, q2, q3, q4⟩ := frzAt_spec ids h1 (fun b' hb' => by
      obtain ⟨k', e1, e2⟩ := hk b' (by simp [hb'])
      by_cases e : b' = b
      · subst e; exact ⟨k.frz, (set_get hb).2 (.inl ⟨rfl, rfl⟩), rfl⟩
      · exact ⟨k', (set_get hb).2 (.inr ⟨e, e1⟩), e2⟩)
    simp only [frzAt, hb]
    refine ⟨q1, h2.trans q2, by rw [q3]; simp, fun i k0 hi => ?_⟩
    by_cases e : i = b
    · subst e
      rw [hb] at hi; cases hi
      obtain ⟨k', p1, p2, p3, p4⟩ := q4 i k.frz ((set_get hb).2 (.inl ⟨rfl, rfl⟩))
      refine ⟨k', p1, Blk.le_trans p2 hle, fun _ => ?_, fun hn => absurd (by simp) hn⟩
      cases hm : k'.st.isMut
      · rfl
      · have := p2.2.2.2.2 hm; cases this
    · obtain ⟨k', p1, p2, p3, p4⟩ := q4 i k0 ((set_get hb).2 (.inr ⟨e, hi⟩))
      exact ⟨k', p1, p2, fun hm => by
        rcases List.mem_cons.1 hm with hm | hm
        · exact absurd hm e
        · exact p3 hm, fun hn => p4 (fun hm => hn (by simp [hm]))⟩
end Go.Proofs.Sh
/- Handing over values and own blocks. -/
namespace Go.Proofs.Sh
open Go.RowKit

def pos (b : Nat) : List Nat → Option Nat
  | [] => none
  | x :: l => if x = b then some 0 else match pos b l with | some i => some (i + 1) | none => none
theorem pos_spec {b : Nat} : ∀ {l : List Nat} {i : Nat}, pos b l = some i → l[i]? = some b
  | [], i, h => by simp [pos] at h
  | x :: l, i, h => by
    simp only [pos] at h
    split at h
    · rename_i e; cases h; simp [e]
    · split at h
      · rename_i i' h'; cases h; simpa using pos_spec h'
      · cases h
theorem pos_none {b : Nat} : ∀ {l : List Nat}, pos b l = none → b ∉ l
  | [], _ => by simp
  | x :: l, h => by
    simp only [pos] at h
    split at h
    · cases h
    · rename_i e
      split at h
      · cases h
      · rename_i h'
        have := pos_none h'
        simp only [List.mem_cons, not_or]
        exact ⟨fun e' => e e'.symm, this⟩

mutual
def prC (z : Bool) (h : List Blk) (ks : List Nat) : C → Option (C × List Nat)
  | .ptr s b i j => match pos b ks with | some b' => some (.ptr s b' i j, []) | none => none
  | .row s b n => match pos b ks with | some b' => some (.row s b' n, []) | none => fz h 6 (.row s b n)
  | .fn f caps => match prCs z h ks caps with | some (cs, ids) => some (.fn f cs, ids) | none => none
  | .cur _ _ => none
  | .top => some (.top, [])
  | .sc v => match z with | true => fz h 6 (.sc v) | false => some (.sc v, [])
  | .sl rows => some (.sl rows, [])
def prCs (z : Bool) (h : List Blk) (ks : List Nat) : List C → Option (List C × List Nat)
  | [] => some ([], [])
  | c :: cs => match prC z h ks c, prCs z h ks cs with
    | some (c', i), some (cs', j) => some (c' :: cs', i ++ j)
    | _, _ => none
end
def prL (z : Bool) (h : List Blk) (ks : List Nat) (cs : List C) : Option (List C × List Nat) := if treeL cs then some (cs, []) else prCs z h ks cs
mutual
def prV (z : Bool) (h : List Blk) (ks : List Nat) : AV → Option (AV × List Nat)
  | .one c => match prC z h ks c with | some (c, ids) => some (.one c, ids) | none => none
  | .agg cs => match prL z h ks cs with | some (cs, ids) => some (.agg cs, ids) | none => none
  | .tup vs => match prVs z h ks vs with | some (vs, ids) => some (.tup vs, ids) | none => none
def prVs (z : Bool) (h : List Blk) (ks : List Nat) : List AV → Option (List AV × List Nat)
  | [] => some ([], [])
  | v :: vs => match prV z h ks v, prVs z h ks vs with
    | some (v', i), some (vs', j) => some (v' :: vs', i ++ j)
    | _, _ => none
end
def prRs (h : List Blk) (ks : List Nat) : List (List C) → Option (List (List C) × List Nat)
  | [] => some ([], [])
  | r :: rows => match prL false h ks r, prRs h ks rows with
    | some (r', i), some (rows', j) => some (r' :: rows', i ++ j)
    | _, _ => none
def prR (h : List Blk) (ks : List Nat) (rows : List (List C)) : Option (List (List C) × List Nat) := if treeRows rows then some (rows, []) else prRs h ks rows
def prH (h : List Blk) (all : List Nat) : List Nat → Option (List Blk × List Nat)
  | [] => some ([], [])
  | b :: ks => match h[b]? with
    | some k => if k.st.known = true then match prR h all k.rows, prH h all ks with
        | some (rows, i), some (K, j) => some (⟨k.s, k.ty, k.st, rows⟩ :: K, i ++ j)
        | _, _ => none
      else match prH h all ks with
        | some (K, j) => some (⟨k.s, k.ty, .dead, []⟩ :: K, j)
        | none => none
    | none => none
def apart (ids ks : List Nat) : Bool := ids.all (fun b => !ks.contains b)
def nodupB : List Nat → Bool
  | [] => true
  | x :: l => !l.contains x && nodupB l
/-- values and the own blocks ks as another's: the values, the blocks, and one's own blocks then -/
def prep (z : Bool) (h : List Blk) (ks : List Nat) (vs : List AV) : Option (List AV × List Blk × List Blk) :=
  match prVs z h ks vs, prH h ks ks with
  | some (vs', i), some (K, j) => if apart (i ++ j) ks = true ∧ nodupB ks = true then some (vs', K, frzAt (i ++ j) h) else none
  | _, _ => none

/-- .. at a call: all of them known -/
def prepC (h : List Blk) (ks : List Nat) (vs : List AV) : Option (List AV × List Blk × List Blk) :=
  match prep true h ks vs with
  | some (vs', H, h1) => if H.all (fun k => k.st.known) = true then some (vs', H, h1) else none
  | none => none
theorem prepC_some {h : List Blk} {ks : List Nat} {vs vs' : List AV} {H h1 : List Blk} (e : prepC h ks vs = some (vs', H, h1)) : prep true h ks vs = some (vs', H, h1) ∧ H.all (fun k => k.st.known) = true := by
  unfold prepC at e
  split at e
  · rename_i a b c hp
    split at e
    · rename_i hk
      simp only [Option.some.injEq, Prod.mk.injEq] at e
      obtain ⟨rfl, rfl, rfl⟩ := e
      exact ⟨hp, hk⟩
    · cases e
  · cases e
theorem prepC_nil {h : List Blk} {vs vs' : List AV} {h1 : List Blk} (e : prep true h [] vs = some (vs', [], h1)) : prepC h [] vs = some (vs', [], h1) := by
  unfold prepC; rw [e]; rfl

theorem nodupB_spec : ∀ {l : List Nat}, nodupB l = true → l.Nodup
  | [], _ => List.nodup_nil
  | x :: l, h => by
    simp only [nodupB, Bool.and_eq_true, Bool.not_eq_true', List.contains_eq_mem, decide_eq_false_iff_not] at h
    exact List.nodup_cons.2 ⟨h.1, nodupB_spec h.2⟩

def KnownIds (h : List Blk) (ids : List Nat) : Prop := ∀ b ∈ ids, ∃ k, h[b]? = some k ∧ k.st.known = true
theorem KnownIds.append {h : List Blk} {i j : List Nat} (a : KnownIds h i) (b : KnownIds h j) : KnownIds h (i ++ j) := fun x hx => by
  rcases List.mem_append.1 hx with hx | hx
  · exact a x hx
  · exact b x hx
theorem KnownIds.nil (h : List Blk) : KnownIds h [] := fun x hx => by simp at hx
theorem fzL_known {h : List Blk} {f : C → Option (C × List Nat)} (hf : ∀ c c' i, f c = some (c', i) → KnownIds h i) : ∀ {cs cs' ids}, fzL f cs = some (cs', ids) → KnownIds h ids
  | [], cs', ids, e => by simp only [fzL, Option.some.injEq, Prod.mk.injEq] at e; rw [← e.2]; exact KnownIds.nil h
  | c :: cs, cs', ids, e => by
    simp only [fzL] at e
    split at e
    · rename_i c1 i c2 j h1 h2
      simp only [Option.some.injEq, Prod.mk.injEq] at e
      rw [← e.2]
      exact (hf _ _ _ h1).append (fzL_known hf h2)
    · cases e
theorem fzRows_known {h : List Blk} {f : C → Option (C × List Nat)} (hf : ∀ c c' i, f c = some (c', i) → KnownIds h i) : ∀ {cs cs' ids}, fzRows f cs = some (cs', ids) → KnownIds h ids
  | [], cs', ids, e => by simp only [fzRows, Option.some.injEq, Prod.mk.injEq] at e; rw [← e.2]; exact KnownIds.nil h
  | c :: cs, cs', ids, e => by
    simp only [fzRows] at e
    split at e
    · rename_i c1 i c2 j h1 h2
      simp only [Option.some.injEq, Prod.mk.injEq] at e
      rw [← e.2]
      exact (fzL_known hf h1).append (fzRows_known hf h2)
    · cases e
theorem fz_known {h : List Blk} : ∀ (d : Nat) (c c' : C) (ids : List Nat), fz h d c = some (c', ids) → KnownIds h ids := by
  intro d
  induction d with
  | zero =>
    intro c c' ids e
    unfold fz at e
    split at e <;> (try (cases e; done)) <;> first
      | (simp only [Option.some.injEq, Prod.mk.injEq] at e; rw [← e.2]; exact KnownIds.nil h)
      | (rename_i hd; cases hd)
  | succ d ih =>
    intro c c' ids e
    unfold fz at e
    split at e <;> (try (cases e; done)) <;> try (simp only [Option.some.injEq, Prod.mk.injEq] at e; rw [← e.2]; exact KnownIds.nil h)
    rename_i d' sx b n hd
    obtain rfl : d = d' := by omega
    split at e
    · rename_i k hb
      split at e
      · rename_i hk
        have hb1 : KnownIds h [b] := fun x hx => by simp at hx; subst hx; exact ⟨k, hb, hk.1⟩
        split at e
        · simp only [Option.some.injEq, Prod.mk.injEq] at e; rw [← e.2]; exact hb1
        · split at e
          · rename_i rows i hr
            simp only [Option.some.injEq, Prod.mk.injEq] at e; rw [← e.2]
            exact hb1.append (fzRows_known ih hr)
          · cases e
      · cases e
    · cases e
theorem fz_sc {h : List Blk} {d : Nat} {v : Value} {c' : C} {ids : List Nat} (e : fz h d (.sc v) = some (c', ids)) : ids = [] := by
  unfold fz at e
  split at e <;> (try (cases e; done)) <;> first
    | (simp only [Option.some.injEq, Prod.mk.injEq] at e; exact e.2.symm)
    | (rename_i hd; cases hd)

section
variable {X X' μ : List Nat} {h : List Blk} {w : World}

/-- what the pieces of a handing over ask -/
structure Hand (X' X μ : List Nat) (h : List Blk) (L' : List Nat) (ks ids : List Nat) : Prop where
  sub : ∀ x, x ∈ L' → x ∈ X ++ alive μ h
  ids : ∀ b ∈ ids, ∀ g, μ[b]? = some g → g ∉ L'

def mapK (μ ks : List Nat) : List Nat := ks.map fun b => μ.getD b 0
theorem mapK_get {ks : List Nat} {b b' g : Nat} (hp : ks[b']? = some b) (hg : μ[b]? = some g) : (mapK μ ks)[b']? = some g := by
  simp only [mapK, List.getElem?_map, hp, Option.map_some, List.getD_eq_getElem?_getD, hg, Option.getD_some]

mutual
theorem prC_sound {z : Bool} (hS : Sim X μ h w) {L' ks all : List Nat} (hH : Hand X' X μ h L' ks all) : ∀ (c c' : C) (ids : List Nat) (u : Value), prC z h ks c = some (c', ids) → (∀ b ∈ ids, b ∈ all) → C.rep (X ++ alive μ h) μ w c u → C.rep L' (mapK μ ks) w c' u
  | .ptr s b i j, c', ids, u, e, _, hr => by
    simp only [prC] at e
    split at e
    · rename_i b' hb
      simp only [Option.some.injEq, Prod.mk.injEq] at e
      rw [← e.1]
      simp only [C.rep] at hr ⊢
      obtain ⟨g, hg, rfl⟩ := hr
      exact ⟨g, mapK_get (pos_spec hb) hg, rfl⟩
    · cases e
  | .row s b n, c', ids, u, e, hi, hr => by
    simp only [prC] at e
    split at e
    · rename_i b' hb
      simp only [Option.some.injEq, Prod.mk.injEq] at e
      rw [← e.1]
      simp only [C.rep] at hr ⊢
      obtain ⟨g, cap, hg, h2⟩ := hr
      exact ⟨g, cap, mapK_get (pos_spec hb) hg, h2⟩
    · exact C.rep.carry Carry.any (fz_sound hS hH.sub 6 _ c' ids u e (fun b hb => hH.ids b (hi b hb)) hr)
  | .fn f caps, c', ids, u, e, hi, hr => by
    simp only [prC] at e
    split at e
    · rename_i cs ids' hb
      simp only [Option.some.injEq, Prod.mk.injEq] at e
      rw [← e.1]
      simp only [C.rep] at hr ⊢
      obtain ⟨arr, rfl, h2⟩ := hr
      exact ⟨arr, rfl, prCs_sound hS hH caps cs ids' _ hb (by rw [e.2]; exact hi) h2⟩
    · cases e
  | .cur _ _, c', ids, u, e, _, hr => by simp [prC] at e
  | .top, c', ids, u, e, _, hr => by
    simp only [prC, Option.some.injEq, Prod.mk.injEq] at e
    rw [← e.1]; simpa [C.rep] using hr
  | .sc v, c', ids, u, e, hi, hr => by
    simp only [prC] at e
    split at e
    · exact C.rep.carry Carry.any (fz_sound hS hH.sub 6 _ c' ids u e (fun b hb => hH.ids b (hi b hb)) hr)
    · simp only [Option.some.injEq, Prod.mk.injEq] at e
      rw [← e.1]; simpa [C.rep] using hr
  | .sl rows, c', ids, u, e, _, hr => by
    simp only [prC, Option.some.injEq, Prod.mk.injEq] at e
    rw [← e.1]
    have := C.rep.sub hH.sub hr
    simp only [C.rep] at this ⊢
    exact this
theorem prCs_sound {z : Bool} (hS : Sim X μ h w) {L' ks all : List Nat} (hH : Hand X' X μ h L' ks all) : ∀ (cs cs' : List C) (ids : List Nat) (us : List Value), prCs z h ks cs = some (cs', ids) → (∀ b ∈ ids, b ∈ all) → C.repl (X ++ alive μ h) μ w cs us → C.repl L' (mapK μ ks) w cs' us
  | [], cs', ids, us, e, _, hr => by
    simp only [prCs, Option.some.injEq, Prod.mk.injEq] at e
    rw [← e.1]; simpa [C.repl] using hr
  | c :: cs, cs', ids, us, e, hi, hr => by
    simp only [prCs] at e
    split at e
    · rename_i c1 i1 c2 i2 h1 h2
      simp only [Option.some.injEq, Prod.mk.injEq] at e
      rw [← e.1]
      simp only [C.repl] at hr ⊢
      obtain ⟨u, us', rfl, r1, r2⟩ := hr
      rw [← e.2] at hi
      exact ⟨u, us', rfl, prC_sound hS hH c c1 i1 u h1 (fun b hb => hi b (by simp [hb])) r1, prCs_sound hS hH cs c2 i2 us' h2 (fun b hb => hi b (by simp [hb])) r2⟩
    · cases e
end
mutual
theorem prV_sound {z : Bool} (hS : Sim X μ h w) {L' ks all : List Nat} (hH : Hand X' X μ h L' ks all) : ∀ (v v' : AV) (ids : List Nat) (u : Value), prV z h ks v = some (v', ids) → (∀ b ∈ ids, b ∈ all) → AV.rep (X ++ alive μ h) μ w v u → AV.rep L' (mapK μ ks) w v' u
  | .one c, v', ids, u, e, hi, hr => by
    simp only [prV] at e
    split at e
    · rename_i c1 i1 h1
      simp only [Option.some.injEq, Prod.mk.injEq] at e
      rw [← e.1]
      simp only [AV.rep] at hr ⊢
      exact prC_sound hS hH c c1 i1 u h1 (by rw [e.2]; exact hi) hr
    · cases e
  | .agg cs, v', ids, u, e, hi, hr => by
    simp only [prV] at e
    split at e
    · rename_i c1 i1 h1
      simp only [Option.some.injEq, Prod.mk.injEq] at e
      rw [← e.1]
      simp only [AV.rep] at hr ⊢
      obtain ⟨arr, rfl, h2⟩ := hr
      refine ⟨arr, rfl, ?_⟩
      unfold prL at h1
      split at h1
      · rename_i ht
        simp only [Option.some.injEq, Prod.mk.injEq] at h1
        rw [← h1.1]
        exact C.repl.carry (K := []) ⟨Keep.refl _ _, fun _ _ _ => by simp, fun x _ hx hm => hx (hH.sub x hm), fun _ _ h => by simp at h⟩ (C.repl_tree ht h2)
      · exact prCs_sound hS hH cs c1 i1 _ h1 (by rw [e.2]; exact hi) h2
    · cases e
  | .tup vs, v', ids, u, e, hi, hr => by
    simp only [prV] at e
    split at e
    · rename_i c1 i1 h1
      simp only [Option.some.injEq, Prod.mk.injEq] at e
      rw [← e.1]
      simp only [AV.rep] at hr ⊢
      obtain ⟨arr, rfl, h2⟩ := hr
      exact ⟨arr, rfl, prVs_sound hS hH vs c1 i1 _ h1 (by rw [e.2]; exact hi) h2⟩
    · cases e
theorem prVs_sound {z : Bool} (hS : Sim X μ h w) {L' ks all : List Nat} (hH : Hand X' X μ h L' ks all) : ∀ (vs vs' : List AV) (ids : List Nat) (us : List Value), prVs z h ks vs = some (vs', ids) → (∀ b ∈ ids, b ∈ all) → AV.repl (X ++ alive μ h) μ w vs us → AV.repl L' (mapK μ ks) w vs' us
  | [], vs', ids, us, e, _, hr => by
    simp only [prVs, Option.some.injEq, Prod.mk.injEq] at e
    rw [← e.1]; simpa [AV.repl] using hr
  | v :: vs, vs', ids, us, e, hi, hr => by
    simp only [prVs] at e
    split at e
    · rename_i c1 i1 c2 i2 h1 h2
      simp only [Option.some.injEq, Prod.mk.injEq] at e
      rw [← e.1]
      simp only [AV.repl] at hr ⊢
      obtain ⟨u, us', rfl, r1, r2⟩ := hr
      rw [← e.2] at hi
      exact ⟨u, us', rfl, prV_sound hS hH v c1 i1 u h1 (fun b hb => hi b (by simp [hb])) r1, prVs_sound hS hH vs c2 i2 us' h2 (fun b hb => hi b (by simp [hb])) r2⟩
    · cases e
end
end
end Go.Proofs.Sh
/- Handing over: the whole; and taking back. -/
namespace Go.Proofs.Sh
open Go.RowKit

mutual
theorem prC_known {z : Bool} {h : List Blk} {ks : List Nat} : ∀ (c c' : C) (ids : List Nat), prC z h ks c = some (c', ids) → KnownIds h ids
  | .ptr s b i j, c', ids, e => by
    simp only [prC] at e
    split at e
    · simp only [Option.some.injEq, Prod.mk.injEq] at e; rw [← e.2]; exact KnownIds.nil h
    · cases e
  | .row s b n, c', ids, e => by
    simp only [prC] at e
    split at e
    · simp only [Option.some.injEq, Prod.mk.injEq] at e; rw [← e.2]; exact KnownIds.nil h
    · exact fz_known 6 _ _ _ e
  | .fn f caps, c', ids, e => by
    simp only [prC] at e
    split at e
    · rename_i cs i hc
      simp only [Option.some.injEq, Prod.mk.injEq] at e; rw [← e.2]; exact prCs_known caps cs i hc
    · cases e
  | .cur _ _, c', ids, e => by simp [prC] at e
  | .top, c', ids, e => by simp only [prC, Option.some.injEq, Prod.mk.injEq] at e; rw [← e.2]; exact KnownIds.nil h
  | .sc v, c', ids, e => by
    simp only [prC] at e
    split at e
    · exact fz_known 6 _ _ _ e
    · simp only [Option.some.injEq, Prod.mk.injEq] at e; rw [← e.2]; exact KnownIds.nil h
  | .sl rows, c', ids, e => by simp only [prC, Option.some.injEq, Prod.mk.injEq] at e; rw [← e.2]; exact KnownIds.nil h
theorem prCs_known {z : Bool} {h : List Blk} {ks : List Nat} : ∀ (cs cs' : List C) (ids : List Nat), prCs z h ks cs = some (cs', ids) → KnownIds h ids
  | [], cs', ids, e => by simp only [prCs, Option.some.injEq, Prod.mk.injEq] at e; rw [← e.2]; exact KnownIds.nil h
  | c :: cs, cs', ids, e => by
    simp only [prCs] at e
    split at e
    · rename_i c1 i1 c2 i2 h1 h2
      simp only [Option.some.injEq, Prod.mk.injEq] at e; rw [← e.2]
      exact (prC_known c c1 i1 h1).append (prCs_known cs c2 i2 h2)
    · cases e
end
mutual
theorem prV_known {z : Bool} {h : List Blk} {ks : List Nat} : ∀ (v v' : AV) (ids : List Nat), prV z h ks v = some (v', ids) → KnownIds h ids
  | .one c, v', ids, e => by
    simp only [prV] at e
    split at e
    · rename_i c1 i1 h1
      simp only [Option.some.injEq, Prod.mk.injEq] at e; rw [← e.2]; exact prC_known c c1 i1 h1
    · cases e
  | .agg cs, v', ids, e => by
    simp only [prV] at e
    split at e
    · rename_i c1 i1 h1
      simp only [Option.some.injEq, Prod.mk.injEq] at e; rw [← e.2]
      unfold prL at h1
      split at h1
      · simp only [Option.some.injEq, Prod.mk.injEq] at h1; rw [← h1.2]; exact KnownIds.nil h
      · exact prCs_known cs c1 i1 h1
    · cases e
  | .tup vs, v', ids, e => by
    simp only [prV] at e
    split at e
    · rename_i c1 i1 h1
      simp only [Option.some.injEq, Prod.mk.injEq] at e; rw [← e.2]; exact prVs_known vs c1 i1 h1
    · cases e
theorem prVs_known {z : Bool} {h : List Blk} {ks : List Nat} : ∀ (vs vs' : List AV) (ids : List Nat), prVs z h ks vs = some (vs', ids) → KnownIds h ids
  | [], vs', ids, e => by simp only [prVs, Option.some.injEq, Prod.mk.injEq] at e; rw [← e.2]; exact KnownIds.nil h
  | v :: vs, vs', ids, e => by
    simp only [prVs] at e
    split at e
    · rename_i c1 i1 c2 i2 h1 h2
      simp only [Option.some.injEq, Prod.mk.injEq] at e; rw [← e.2]
      exact (prV_known v c1 i1 h1).append (prVs_known vs c2 i2 h2)
    · cases e
end

theorem prL_known {z : Bool} {h : List Blk} {ks : List Nat} {cs cs' : List C} {ids : List Nat} (e : prL z h ks cs = some (cs', ids)) : KnownIds h ids := by
  unfold prL at e
  split at e
  · simp only [Option.some.injEq, Prod.mk.injEq] at e; rw [← e.2]; exact KnownIds.nil h
  · exact prCs_known _ _ _ e
theorem prRs_known {h : List Blk} {ks : List Nat} : ∀ {rows rows' : List (List C)} {ids : List Nat}, prRs h ks rows = some (rows', ids) → KnownIds h ids
  | [], rows', ids, e => by simp only [prRs, Option.some.injEq, Prod.mk.injEq] at e; rw [← e.2]; exact KnownIds.nil h
  | r :: rows, rows', ids, e => by
    simp only [prRs] at e
    split at e
    · rename_i c1 i1 c2 i2 h1 h2
      simp only [Option.some.injEq, Prod.mk.injEq] at e; rw [← e.2]
      exact (prL_known h1).append (prRs_known h2)
    · cases e
theorem prR_known {h : List Blk} {ks : List Nat} {rows rows' : List (List C)} {ids : List Nat} (e : prR h ks rows = some (rows', ids)) : KnownIds h ids := by
  unfold prR at e
  split at e
  · simp only [Option.some.injEq, Prod.mk.injEq] at e; rw [← e.2]; exact KnownIds.nil h
  · exact prRs_known e

theorem prH_spec {h : List Blk} {all : List Nat} : ∀ {ks : List Nat} {K : List Blk} {ids : List Nat}, prH h all ks = some (K, ids) → KnownIds h ids ∧ K.length = ks.length ∧
    ∀ (i b : Nat), ks[i]? = some b → ∃ k k', h[b]? = some k ∧ K[i]? = some k' ∧ k'.st = k.st ∧ (k.st.known = true → ∃ rows j, prR h all k.rows = some (rows, j) ∧ k' = ⟨k.s, k.ty, k.st, rows⟩ ∧ ∀ x ∈ j, x ∈ ids)
  | [], K, ids, e => by
    simp only [prH, Option.some.injEq, Prod.mk.injEq] at e
    obtain ⟨rfl, rfl⟩ := e
    exact ⟨KnownIds.nil h, rfl, by simp⟩
  | b :: ks, K, ids, e => by
    simp only [prH] at e
    split at e
    · rename_i k hb
      split at e
      · rename_i hk
        split at e
        · rename_i rows i K' j h1 h2
          simp only [Option.some.injEq, Prod.mk.injEq] at e
          obtain ⟨rfl, rfl⟩ := e
          obtain ⟨q1, q2, q3⟩ := prH_spec h2
          refine ⟨(prR_known h1).append q1, by simp [q2], fun m b' hm => ?_⟩
          cases m with
          | zero => simp at hm; subst hm; exact ⟨k, _, hb, rfl, rfl, fun _ => ⟨rows, i, h1, rfl, fun x hx => by simp [hx]⟩⟩
          | succ m =>
            obtain ⟨k', k2, p1, p2, p3, p4⟩ := q3 m b' (by simpa using hm)
            exact ⟨k', k2, p1, by simpa using p2, p3, fun h => let ⟨r, j', a1, a2, a3⟩ := p4 h; ⟨r, j', a1, a2, fun x hx => by simp [a3 x hx]⟩⟩
        · cases e
      · rename_i hk
        split at e
        · rename_i K' j h2
          simp only [Option.some.injEq, Prod.mk.injEq] at e
          obtain ⟨rfl, rfl⟩ := e
          obtain ⟨q1, q2, q3⟩ := prH_spec h2
          refine ⟨q1, by simp [q2], fun m b' hm => ?_⟩
          cases m with
          | zero =>
            simp at hm; subst hm
            refine ⟨k, _, hb, rfl, ?_, fun h => absurd h hk⟩
            cases hst : k.st <;> simp [hst, St.known] at hk ⊢
          | succ m =>
            obtain ⟨k', k2, p1, p2, p3, p4⟩ := q3 m b' (by simpa using hm)
            exact ⟨k', k2, p1, by simpa using p2, p3, p4⟩
        · cases e
    · cases e

section
variable {X μ : List Nat} {h : List Blk} {w : World}

theorem prCs_len {z : Bool} {ks : List Nat} : ∀ {cs cs' : List C} {ids : List Nat}, prCs z h ks cs = some (cs', ids) → cs'.length = cs.length
  | [], cs', ids, e => by simp only [prCs, Option.some.injEq, Prod.mk.injEq] at e; rw [← e.1]
  | c :: cs, cs', ids, e => by
    simp only [prCs] at e
    split at e
    · rename_i c1 i1 c2 i2 h1 h2
      simp only [Option.some.injEq, Prod.mk.injEq] at e; rw [← e.1]
      simp [prCs_len h2]
    · cases e
theorem prL_len {z : Bool} {ks : List Nat} {cs cs' : List C} {ids : List Nat} (e : prL z h ks cs = some (cs', ids)) : cs'.length = cs.length := by
  unfold prL at e
  split at e
  · simp only [Option.some.injEq, Prod.mk.injEq] at e; rw [← e.1]
  · exact prCs_len e
theorem prL_sound {z : Bool} {X' : List Nat} (hS : Sim X μ h w) {L' ks all : List Nat} (hH : Hand X' X μ h L' ks all) {cs cs' : List C} {ids : List Nat} {us : List Value} (e : prL z h ks cs = some (cs', ids)) (hi : ∀ b ∈ ids, b ∈ all) (hr : C.repl (X ++ alive μ h) μ w cs us) : C.repl L' (mapK μ ks) w cs' us := by
  unfold prL at e
  split at e
  · rename_i ht
    simp only [Option.some.injEq, Prod.mk.injEq] at e
    rw [← e.1]
    exact C.repl.carry (K := []) ⟨Keep.refl _ _, fun _ _ _ => by simp, fun x _ hx hm => hx (hH.sub x hm), fun _ _ h => by simp at h⟩ (C.repl_tree ht hr)
  · exact prCs_sound hS hH cs cs' ids us e hi hr
theorem prRs_get {ks : List Nat} : ∀ {rows rows' : List (List C)} {ids : List Nat}, prRs h ks rows = some (rows', ids) → rows'.length = rows.length ∧ ∀ (j : Nat) (r' : List C), rows'[j]? = some r' → ∃ r i, rows[j]? = some r ∧ prL false h ks r = some (r', i) ∧ ∀ b ∈ i, b ∈ ids
  | [], cs', ids, e => by
    simp only [prRs, Option.some.injEq, Prod.mk.injEq] at e
    obtain ⟨rfl, rfl⟩ := e
    simp
  | c :: cs, cs', ids, e => by
    simp only [prRs] at e
    split at e
    · rename_i c1 i cs1 j h1 h2
      simp only [Option.some.injEq, Prod.mk.injEq] at e
      obtain ⟨rfl, rfl⟩ := e
      obtain ⟨q1, q2⟩ := prRs_get h2
      refine ⟨by simp [q1], fun m c' hm => ?_⟩
      cases m with
      | zero => simp at hm; subst hm; exact ⟨c, i, rfl, h1, fun b hb => by simp [hb]⟩
      | succ m =>
        obtain ⟨c2, i2, e1, e2, e3⟩ := q2 m c' (by simpa using hm)
        exact ⟨c2, i2, by simpa using e1, e2, fun b hb => by simp [e3 b hb]⟩
    · cases e

/-- a row of an own block, as values -/
theorem Laid.row {L : List Nat} {cur : Array Value} {s i : Nat} {rows : List (List C)} {r : List C} (hl : Laid L μ w cur s rows) (hr : rows[i]? = some r) : C.repl L μ w r ((cur.toList.drop (i * s)).take s) := by
  obtain ⟨h1, h2⟩ := hl i r hr
  refine C.repl_of ?_ (fun j c u hj hu => ?_)
  · have hlen : ∀ j, j < r.length → i * s + j < cur.size := fun j hj => by
      obtain ⟨u, hu, _⟩ := h2 j _ (List.getElem?_eq_getElem hj)
      exact (Array.getElem?_eq_some_iff.1 hu).1
    simp only [List.length_take, List.length_drop, Array.length_toList]
    rcases Nat.eq_zero_or_pos r.length with h0 | hp
    · omega
    · have := hlen (r.length - 1) (by omega); omega
  · obtain ⟨u', hu', hv⟩ := h2 j c hj
    rw [List.getElem?_take] at hu
    split at hu
    · rw [List.getElem?_drop, Array.getElem?_toList, hu'] at hu
      cases hu; exact hv
    · cases hu

theorem prR_sound {X' : List Nat} (hS : Sim X μ h w) {L' ks all : List Nat} (hH : Hand X' X μ h L' ks all) {rows rows' : List (List C)} {ids : List Nat} {cur : Array Value} {s : Nat} (e : prR h ks rows = some (rows', ids)) (hids : ∀ b ∈ ids, b ∈ all)
    (hl : Laid (X ++ alive μ h) μ w cur s rows) : Laid L' (mapK μ ks) w cur s rows' := by
  have key : ∀ (i : Nat) (r r' : List C) (ids' : List Nat), rows[i]? = some r → prL false h ks r = some (r', ids') → (∀ b ∈ ids', b ∈ all) → r'.length = s ∧ ∀ (j : Nat) (c : C), r'[j]? = some c → ∃ u, cur[i * s + j]? = some u ∧ C.rep L' (mapK μ ks) w c u := by
    intro i r r' ids' hi hp hb
    have h1 := hl.row hi
    have h2 := prL_sound hS hH hp hb h1
    have h3 := prL_len hp
    have h4 := (hl i r hi).1
    refine ⟨by omega, fun j c hj => ?_⟩
    obtain ⟨u, hu, hv⟩ := C.repl_get h2 j c hj
    rw [List.getElem?_take] at hu
    split at hu
    · rw [List.getElem?_drop, Array.getElem?_toList] at hu
      exact ⟨u, hu, hv⟩
    · cases hu
  unfold prR at e
  split at e
  · rename_i ht
    simp only [Option.some.injEq, Prod.mk.injEq] at e
    rw [← e.1]
    intro i r hi
    have h1 := List.all_eq_true.1 ht r (List.mem_of_getElem? hi)
    exact key i r r [] hi (by simp only [prL, h1, if_true]) (by simp)
  · obtain ⟨e1, e2⟩ := prRs_get e
    intro i r' hi
    obtain ⟨r, i1, q1, q2, q3⟩ := e2 i r' hi
    exact key i r r' i1 q1 q2 (fun b hb => hids b (q3 b hb))

/-- the outcome of a handing over -/
structure Handed (X μ : List Nat) (h : List Blk) (w : World) (ks : List Nat) (vs' : List AV) (us : List Value) (K h1 : List Blk) : Prop where
  sim : Sim X μ h1 w
  stp : Stp μ h w μ h1 w
  nodup : ks.Nodup
  len : h1.length = h.length
  klen : K.length = ks.length
  blk : ∀ (i b : Nat), ks[i]? = some b → ∃ k k', h1[b]? = some k ∧ K[i]? = some k' ∧ k'.st = k.st
  out : ∀ X' : List Nat, (∀ x ∈ X', x ∈ X ++ alive μ h1) → (∀ (m g : Nat) (k : Blk), (mapK μ ks)[m]? = some g → K[m]? = some k → k.st.known = true → g ∉ X') → Sim X' (mapK μ ks) K w ∧ AV.repl (X' ++ alive (mapK μ ks) K) (mapK μ ks) w vs' us

theorem prep_sound {z : Bool} {ks : List Nat} {vs vs' : List AV} {K h1 : List Blk} {us : List Value} (hS : Sim X μ h w) (hp : prep z h ks vs = some (vs', K, h1)) (hr : AV.repl (X ++ alive μ h) μ w vs us) : Handed X μ h w ks vs' us K h1 := by
  unfold prep at hp
  split at hp
  · rename_i vs1 i K1 j hv hh
    split at hp
    · rename_i hc
      simp only [Option.some.injEq, Prod.mk.injEq] at hp
      obtain ⟨rfl, rfl, rfl⟩ := hp
      obtain ⟨hap, hnd⟩ := hc
      have hnd := nodupB_spec hnd
      obtain ⟨hk2, hkl, hkb⟩ := prH_spec hh
      have hk1 := prVs_known _ _ _ hv
      obtain ⟨s1, s2, s3, s4⟩ := frzAt_spec (i ++ j) hS (hk1.append hk2)
      have hnot : ∀ b ∈ i ++ j, b ∉ ks := fun b hb hm => by
        have := List.all_eq_true.1 hap b hb
        simp [hm] at this
      have hks : ∀ (m b : Nat), ks[m]? = some b → ∃ k, h[b]? = some k ∧ (frzAt (i ++ j) h)[b]? = some k := fun m b hm => by
        obtain ⟨k, k2, p1, p2, p3, p4⟩ := hkb m b hm
        obtain ⟨k', e1, _, _, e4⟩ := s4 b k p1
        have := e4 (fun hx => hnot b hx (List.mem_of_getElem? hm))
        rw [this] at e1
        exact ⟨k, p1, e1⟩
      refine ⟨s1, s2, hnd, s3, hkl, fun m b hm => ?_, fun X' hX1 hX2 => ?_⟩
      · obtain ⟨k, k2, p1, p2, p3, p4⟩ := hkb m b hm
        obtain ⟨k3, e1, e2⟩ := hks m b hm
        rw [p1] at e1; cases e1
        exact ⟨k, k2, e2, p2, p3⟩
      · have hget : ∀ (m g : Nat), (mapK μ ks)[m]? = some g → ∃ b k, ks[m]? = some b ∧ μ[b]? = some g ∧ (frzAt (i ++ j) h)[b]? = some k ∧ h[b]? = some k := fun m g hm => by
          simp only [mapK, List.getElem?_map, Option.map_eq_some_iff] at hm
          obtain ⟨b, hb, hg⟩ := hm
          obtain ⟨k, e0, e1⟩ := hks m b hb
          obtain ⟨g', hg', _⟩ := hS.get e0
          rw [List.getD_eq_getElem?_getD, hg', Option.getD_some] at hg
          subst hg
          exact ⟨b, k, hb, hg', e1, e0⟩
        have hal : ∀ x, x ∈ alive (mapK μ ks) K1 → x ∈ alive μ (frzAt (i ++ j) h) := fun x hx => by
          obtain ⟨m, q, h1, h2, h3⟩ := mem_alive.1 hx
          obtain ⟨b, k, hb, hg, e1, e0⟩ := hget m x h1
          obtain ⟨k', k2, p1, p2, p3, p4⟩ := hkb m b hb
          rw [e0] at p1; cases p1
          rw [p2] at h2; cases h2
          exact mem_alive.2 ⟨b, k, hg, e1, by rw [← p3]; exact h3⟩
        have hL1 : ∀ x, x ∈ X' ++ alive (mapK μ ks) K1 → x ∈ X ++ alive μ (frzAt (i ++ j) h) := fun x hx => by
          rcases List.mem_append.1 hx with hx | hx
          · exact hX1 x hx
          · exact List.mem_append.2 (.inr (hal x hx))
        have hL0 : ∀ x, x ∈ X' ++ alive (mapK μ ks) K1 → x ∈ X ++ alive μ h := fun x hx => by
          rcases List.mem_append.1 (hL1 x hx) with hx | hx
          · exact List.mem_append.2 (.inl hx)
          · exact List.mem_append.2 (.inr (s2.old x hx (s1.aliveLt hx)))
        have hids : ∀ b ∈ i ++ j, ∀ g, μ[b]? = some g → g ∉ X' ++ alive (mapK μ ks) K1 := fun b hb g hg hx => by
          obtain ⟨k, e1, e2⟩ := (hk1.append hk2) b hb
          rcases List.mem_append.1 (hL1 g hx) with hx | hx
          · exact hS.out b k g e1 e2 hg hx
          · obtain ⟨m, q, h1, h2, h3⟩ := mem_alive.1 hx
            obtain ⟨k', f1, f2, f3, _⟩ := s4 b k e1
            by_cases hm : m = b
            · subst hm
              rw [f1] at h2; cases h2
              rw [f3 hb] at h3; cases h3
            · exact s1.inj m b q k' g hm h2 f1 h3 (by rw [f2.2.2.2.1]; exact e2) h1 hg
        have hH : Hand X' X μ h (X' ++ alive (mapK μ ks) K1) ks (i ++ j) := ⟨hL0, hids⟩
        refine ⟨⟨by simp [mapK, hkl], ?_, ?_, ?_, ?_, ?_⟩, prVs_sound hS hH vs vs1 i us hv (fun b hb => by simp [hb]) hr⟩
        · intro g hg
          obtain ⟨m, hm⟩ := List.getElem?_of_mem hg
          obtain ⟨b, k, _, hb, _⟩ := hget m g hm
          exact hS.lt g (List.mem_of_getElem? hb)
        · intro g hg
          rcases List.mem_append.1 (hX1 g hg) with hx | hx
          · exact hS.xlt g hx
          · exact s1.aliveLt hx
        · intro m q g hq hk hg
          exact hX2 m g q hg hq hk
        · intro m1 m2 q q' g hne h1 h2 h3 h4 hg1 hg2
          obtain ⟨b1, k1, c1, c2, c3, c4⟩ := hget m1 g hg1
          obtain ⟨b2, k2, d1, d2, d3, d4⟩ := hget m2 g hg2
          obtain ⟨k', k3, p1, p2, p3, p4⟩ := hkb m1 b1 c1
          rw [c4] at p1; cases p1
          rw [p2] at h1; cases h1
          obtain ⟨k', k4, p5, p6, p7, p8⟩ := hkb m2 b2 d1
          rw [d4] at p5; cases p5
          rw [p6] at h2; cases h2
          have hb12 : b1 ≠ b2 := fun e => hne (by
            have l1 := (List.getElem?_eq_some_iff.1 c1); have l2 := (List.getElem?_eq_some_iff.1 d1)
            obtain ⟨l1, v1⟩ := l1; obtain ⟨l2, v2⟩ := l2
            have hpw := List.pairwise_iff_getElem.1 hnd
            rcases Nat.lt_trichotomy m1 m2 with hlt | heq | hgt
            · exact absurd (by rw [v1, v2, e]) (hpw m1 m2 l1 l2 hlt)
            · exact heq
            · exact absurd (by rw [v1, v2, e]) (hpw m2 m1 l2 l1 hgt))
          exact s1.inj b1 b2 k1 k2 g hb12 c3 d3 (by rw [← p3]; exact h3) (by rw [← p7]; exact h4) c2 d2
        · intro m q g h1 h2 hg
          obtain ⟨b, k, c1, c2, c3, c4⟩ := hget m g hg
          obtain ⟨k', k3, p1, p2, p3, p4⟩ := hkb m b c1
          rw [c4] at p1; cases p1
          rw [p2] at h1; cases h1
          rw [p3] at h2
          obtain ⟨rows, j', a1, a2, a3⟩ := p4 h2
          subst a2
          obtain ⟨cur, hc, hl⟩ := hS.blk b k g c4 h2 c2
          refine ⟨cur, hc, ?_⟩
          exact prR_sound hS hH a1 (fun x hx => by simp [a3 x hx]) hl
    · cases hp
  · cases hp
end
end Go.Proofs.Sh
/- Taking back what a call has left. -/
namespace Go.Proofs.Sh
open Go.RowKit

mutual
def C.ren (f : Nat → Nat) : C → C
  | .ptr s b i j => .ptr s (f b) i j
  | .row s b n => .row s (f b) n
  | .fn g caps => .fn g (C.renL f caps)
  | .top => .top
  | .sc v => .sc v
  | .sl rows => .sl rows
  | .cur cs j => .cur cs j
def C.renL (f : Nat → Nat) : List C → List C
  | [] => []
  | c :: cs => C.ren f c :: C.renL f cs
end
def renA (f : Nat → Nat) (cs : List C) : List C := if treeL cs then cs else C.renL f cs
def renRows (f : Nat → Nat) (rows : List (List C)) : List (List C) := if treeRows rows then rows else rows.map (renA f)
mutual
def AV.ren (f : Nat → Nat) : AV → AV
  | .one c => .one (C.ren f c)
  | .agg cs => .agg (renA f cs)
  | .tup vs => .tup (AV.renL f vs)
def AV.renL (f : Nat → Nat) : List AV → List AV
  | [] => []
  | v :: vs => AV.ren f v :: AV.renL f vs
end
def Blk.ren (f : Nat → Nat) (k : Blk) : Blk := ⟨k.s, k.ty, k.st, renRows f k.rows⟩

mutual
theorem C.rep_ren {L L' μ μ' : List Nat} {w : World} {f : Nat → Nat} (hL : ∀ x, x ∈ L' → x ∈ L) (hf : ∀ (b g : Nat), μ[b]? = some g → μ'[f b]? = some g) : ∀ {c : C} {u : Value}, C.rep L μ w c u → C.rep L' μ' w (c.ren f) u
  | .ptr s b i j, u, h => by
    simp only [C.ren, C.rep] at h ⊢
    obtain ⟨g, h1, h2⟩ := h
    exact ⟨g, hf b g h1, h2⟩
  | .row s b n, u, h => by
    simp only [C.ren, C.rep] at h ⊢
    obtain ⟨g, cap, h1, h2⟩ := h
    exact ⟨g, cap, hf b g h1, h2⟩
  | .fn g caps, u, h => by
    simp only [C.ren, C.rep] at h ⊢
    obtain ⟨arr, h1, h2⟩ := h
    exact ⟨arr, h1, C.repl_ren hL hf h2⟩
  | .top, u, h => by simpa [C.ren, C.rep] using h
  | .sc v, u, h => by simpa [C.ren, C.rep] using h
  | .sl rows, u, h => by
    have := C.rep.sub hL h
    simp only [C.ren, C.rep] at this ⊢; exact this
  | .cur cs j, u, h => by
    have := C.rep.sub hL h
    simp only [C.ren, C.rep] at this ⊢; exact this
theorem C.repl_ren {L L' μ μ' : List Nat} {w : World} {f : Nat → Nat} (hL : ∀ x, x ∈ L' → x ∈ L) (hf : ∀ (b g : Nat), μ[b]? = some g → μ'[f b]? = some g) : ∀ {cs : List C} {us : List Value}, C.repl L μ w cs us → C.repl L' μ' w (C.renL f cs) us
  | [], us, h => by simpa [C.renL, C.repl] using h
  | c :: cs, us, h => by
    simp only [C.renL, C.repl] at h ⊢
    obtain ⟨u, us', h1, h2, h3⟩ := h
    exact ⟨u, us', h1, C.rep_ren hL hf h2, C.repl_ren hL hf h3⟩
end
theorem repl_renA {L L' μ μ' : List Nat} {w : World} {f : Nat → Nat} (hL : ∀ x, x ∈ L' → x ∈ L) (hf : ∀ (b g : Nat), μ[b]? = some g → μ'[f b]? = some g) {cs : List C} {us : List Value} (h : C.repl L μ w cs us) : C.repl L' μ' w (renA f cs) us := by
  unfold renA
  split
  · rename_i ht
    exact C.repl.carry (K := []) ⟨Keep.refl _ _, fun _ _ _ => by simp, fun x _ hx hm => hx (hL x hm), fun _ _ h => by simp at h⟩ (C.repl_tree ht h)
  · exact C.repl_ren hL hf h
mutual
theorem AV.rep_ren {L L' μ μ' : List Nat} {w : World} {f : Nat → Nat} (hL : ∀ x, x ∈ L' → x ∈ L) (hf : ∀ (b g : Nat), μ[b]? = some g → μ'[f b]? = some g) : ∀ {v : AV} {u : Value}, AV.rep L μ w v u → AV.rep L' μ' w (v.ren f) u
  | .one c, u, h => by simp only [AV.ren, AV.rep] at h ⊢; exact C.rep_ren hL hf h
  | .agg cs, u, h => by
    simp only [AV.ren, AV.rep] at h ⊢
    obtain ⟨arr, h1, h2⟩ := h
    exact ⟨arr, h1, repl_renA hL hf h2⟩
  | .tup vs, u, h => by
    simp only [AV.ren, AV.rep] at h ⊢
    obtain ⟨arr, h1, h2⟩ := h
    exact ⟨arr, h1, AV.repl_ren hL hf h2⟩
theorem AV.repl_ren {L L' μ μ' : List Nat} {w : World} {f : Nat → Nat} (hL : ∀ x, x ∈ L' → x ∈ L) (hf : ∀ (b g : Nat), μ[b]? = some g → μ'[f b]? = some g) : ∀ {vs : List AV} {us : List Value}, AV.repl L μ w vs us → AV.repl L' μ' w (AV.renL f vs) us
  | [], us, h => by simpa [AV.renL, AV.repl] using h
  | v :: vs, us, h => by
    simp only [AV.renL, AV.repl] at h ⊢
    obtain ⟨u, us', h1, h2, h3⟩ := h
    exact ⟨u, us', h1, AV.rep_ren hL hf h2, AV.repl_ren hL hf h3⟩
end
theorem C.renL_length (f : Nat → Nat) : ∀ cs : List C, (C.renL f cs).length = cs.length
  | [] => rfl
  | c :: cs => by simp [C.renL, C.renL_length f cs]
theorem C.renL_get (f : Nat → Nat) : ∀ (cs : List C) (j : Nat), (C.renL f cs)[j]? = (cs[j]?).map (C.ren f)
  | [], j => by simp [C.renL]
  | c :: cs, 0 => by simp [C.renL]
  | c :: cs, j + 1 => by simp [C.renL, C.renL_get f cs j]
theorem C.ren_tree {f : Nat → Nat} {c : C} (h : c.tree = true) : c.ren f = c := by
  cases c <;> first | rfl | (simp [C.tree] at h; done)

theorem Laid.ren {L L' μ μ' : List Nat} {w : World} {f : Nat → Nat} {cur : Array Value} {s : Nat} {rows : List (List C)} (hL : ∀ x, x ∈ L' → x ∈ L) (hf : ∀ (b g : Nat), μ[b]? = some g → μ'[f b]? = some g) (h : Laid L μ w cur s rows) : Laid L' μ' w cur s (renRows f rows) := by
  unfold renRows
  split
  · rename_i ht
    intro i r hr
    obtain ⟨h1, h2⟩ := h i r hr
    refine ⟨h1, fun j c hj => ?_⟩
    obtain ⟨u, hu, hv⟩ := h2 j c hj
    have t1 := List.all_eq_true.1 ht r (List.mem_of_getElem? hr)
    have t2 := List.all_eq_true.1 t1 c (List.mem_of_getElem? hj)
    exact ⟨u, hu, C.rep.carry Carry.any (C.rep.sub hL (C.rep_tree t2 hv))⟩
  · intro i r hr
    rw [List.getElem?_map, Option.map_eq_some_iff] at hr
    obtain ⟨r0, hr0, rfl⟩ := hr
    obtain ⟨h1, h2⟩ := h i r0 hr0
    unfold renA
    split
    · rename_i ht
      refine ⟨h1, fun j c hj => ?_⟩
      obtain ⟨u, hu, hv⟩ := h2 j c hj
      have t2 := List.all_eq_true.1 ht c (List.mem_of_getElem? hj)
      exact ⟨u, hu, C.rep.carry Carry.any (C.rep.sub hL (C.rep_tree t2 hv))⟩
    · refine ⟨by rw [C.renL_length, h1], fun j c hj => ?_⟩
      rw [C.renL_get, Option.map_eq_some_iff] at hj
      obtain ⟨c0, hc0, rfl⟩ := hj
      obtain ⟨u, hu, hv⟩ := h2 j c0 hc0
      exact ⟨u, hu, C.rep_ren hL hf hv⟩

def setAll : List Nat → List Blk → List Blk → List Blk
  | b :: ks, k :: K, h => setAll ks K (h.set b k)
  | _, _, h => h
theorem setAll_length : ∀ (ks : List Nat) (K h : List Blk), (setAll ks K h).length = h.length
  | [], _, h => rfl
  | b :: ks, [], h => rfl
  | b :: ks, k :: K, h => by simp [setAll, setAll_length ks K]
theorem setAll_get : ∀ {ks : List Nat} {K h : List Blk} {x : Nat} {k : Blk}, ks.Nodup → ks.length ≤ K.length → (setAll ks K h)[x]? = some k → (∃ i : Nat, ks[i]? = some x ∧ K[i]? = some k) ∨ (x ∉ ks ∧ h[x]? = some k)
  | [], K, h, x, k, _, _, e => .inr ⟨by simp, by simpa [setAll] using e⟩
  | b :: ks, [], h, x, k, _, hl, e => by simp at hl
  | b :: ks, k0 :: K, h, x, k, hn, hl, e => by
    obtain ⟨hb, hn⟩ := List.nodup_cons.1 hn
    simp only [setAll] at e
    rcases setAll_get hn (by simpa using hl) e with ⟨i, h1, h2⟩ | ⟨h1, h2⟩
    · exact .inl ⟨i + 1, by simpa using h1, by simpa using h2⟩
    · rw [List.getElem?_set] at h2
      split at h2
      · rename_i hbx
        split at h2
        · exact .inl ⟨0, by simpa using hbx, by simpa using h2⟩
        · cases h2
      · rename_i hbx
        exact .inr ⟨by simp only [List.mem_cons, not_or]; exact ⟨fun e => hbx e.symm, h1⟩, h2⟩

/-- the callee's numbers as the caller's -/
def back (n : Nat) (ks : List Nat) (b : Nat) : Nat := if b < ks.length then ks.getD b 0 else n + (b - ks.length)
/-- the caller's own blocks behind the call -/
def merge (h : List Blk) (ks : List Nat) (H : List Blk) : List Blk := setAll ks (H.map (Blk.ren (back h.length ks))) h ++ (H.drop ks.length).map (Blk.ren (back h.length ks))

section
variable {X μ : List Nat} {h h1 : List Blk} {w w2 : World} {ks : List Nat} {vs' : List AV} {us : List Value} {K : List Blk}

def outer (X μ : List Nat) (h1 : List Blk) (ks : List Nat) : List Nat := X ++ (alive μ h1).filter fun g => !(mapK μ ks).contains g

theorem take_back (hH : Handed X μ h w ks vs' us K h1) (hkn : K.all (fun k => k.st.known) = true) {μ2 : List Nat} {H2 : List Blk} {v : AV} {u : Value} (hS2 : Sim (outer X μ h1 ks) μ2 H2 w2) (hT : Stp (mapK μ ks) K w μ2 H2 w2) (hv : AV.rep (outer X μ h1 ks ++ alive μ2 H2) μ2 w2 v u) :
    ∃ μ3, Sim X μ3 (merge h1 ks H2) w2 ∧ Stp μ h1 w μ3 (merge h1 ks H2) w2 ∧ AV.rep (X ++ alive μ3 (merge h1 ks H2)) μ3 w2 (v.ren (back h1.length ks)) u ∧ Keep (mapK μ ks) w w2 := by
  have hblk : ∀ (i b : Nat), ks[i]? = some b → ∃ k k', h1[b]? = some k ∧ k.st.known = true ∧ K[i]? = some k' ∧ k'.st = k.st := fun i b hb => by
    obtain ⟨k, k', e1, e2, e3⟩ := hH.blk i b hb
    exact ⟨k, k', e1, by rw [← e3]; exact List.all_eq_true.1 hkn k' (List.mem_of_getElem? e2), e2, e3⟩
  have hS := hH.sim
  have hμl := hS.len
  have hm2 : ks.length ≤ μ2.length := by
    rcases Nat.lt_or_ge μ2.length ks.length with hlt | hge
    · have hl : μ2.length < (mapK μ ks).length := by simp only [mapK, List.length_map]; exact hlt
      have := hT.map _ _ (List.getElem?_eq_getElem hl)
      rw [List.getElem?_eq_none (Nat.le_refl _)] at this
      cases this
    · exact hge
  have hl2 := hS2.len
  have hf : ∀ (b g : Nat), μ2[b]? = some g → (μ ++ μ2.drop ks.length)[back h1.length ks b]? = some g := fun b g hb => by
    unfold back
    split
    · rename_i hlt
      have hkb : ks[b]? = some (ks.getD b 0) := by rw [List.getD_eq_getElem?_getD, List.getElem?_eq_getElem hlt]; rfl
      obtain ⟨k, k', e1, _, _, _⟩ := hblk b _ hkb
      obtain ⟨g', hg', _⟩ := hS.get e1
      have := hT.map b g' (mapK_get hkb hg')
      rw [hb] at this; cases this
      rw [List.getElem?_append_left (List.getElem?_eq_some_iff.1 hg').1]
      exact hg'
    · rename_i hge
      rw [List.getElem?_append_right (by omega), List.getElem?_drop, ← hb]
      congr 1; omega
  have hget : ∀ (x : Nat) (k : Blk), (merge h1 ks H2)[x]? = some k → (x ∉ ks ∧ x < h1.length ∧ h1[x]? = some k ∧ ∀ g, (μ ++ μ2.drop ks.length)[x]? = some g → μ[x]? = some g) ∨
      ∃ (i : Nat) (k0 : Blk), x = back h1.length ks i ∧ H2[i]? = some k0 ∧ k = k0.ren (back h1.length ks) ∧ ∀ g, (μ ++ μ2.drop ks.length)[x]? = some g → μ2[i]? = some g := fun x k hx => by
    unfold merge at hx
    have sl := setAll_length ks (H2.map (Blk.ren (back h1.length ks))) h1
    rcases Nat.lt_or_ge x h1.length with hlt | hge
    · rw [List.getElem?_append_left (by omega)] at hx
      rcases setAll_get hH.nodup (by simp; omega) hx with ⟨i, e1, e2⟩ | ⟨e1, e2⟩
      · right
        rw [List.getElem?_map, Option.map_eq_some_iff] at e2
        obtain ⟨k0, e2, rfl⟩ := e2
        have hi := (List.getElem?_eq_some_iff.1 e1).1
        have hb : back h1.length ks i = x := by
          unfold back; rw [if_pos hi, List.getD_eq_getElem?_getD, e1]; rfl
        refine ⟨i, k0, hb.symm, e2, rfl, fun g hg => ?_⟩
        have hi2 : i < μ2.length := by have := (List.getElem?_eq_some_iff.1 e2).1; omega
        have := hf i _ (List.getElem?_eq_getElem hi2)
        rw [hb, hg] at this
        rw [List.getElem?_eq_getElem hi2, this]
      · exact .inl ⟨e1, hlt, e2, fun g hg => by rwa [List.getElem?_append_left (by omega)] at hg⟩
    · right
      rw [List.getElem?_append_right (by omega), List.getElem?_map, Option.map_eq_some_iff, sl] at hx
      obtain ⟨k0, e1, rfl⟩ := hx
      rw [List.getElem?_drop] at e1
      refine ⟨_, k0, ?_, e1, rfl, fun g hg => ?_⟩
      · unfold back; rw [if_neg (by omega)]; omega
      · rw [List.getElem?_append_right (by omega), List.getElem?_drop, hμl] at hg
        exact hg
  have halk : ∀ x, x ∈ alive (mapK μ ks) K → ∃ b k, b ∈ ks ∧ h1[b]? = some k ∧ k.st.isMut = true ∧ k.st.known = true ∧ μ[b]? = some x := fun x hx => by
    obtain ⟨i, q, e1, e2, e3⟩ := mem_alive.1 hx
    have hi : i < ks.length := by have := (List.getElem?_eq_some_iff.1 e1).1; simpa [mapK] using this
    obtain ⟨k, k', f1, f2, f3, f4⟩ := hblk i _ (List.getElem?_eq_getElem hi)
    rw [f3] at e2; cases e2
    obtain ⟨g', hg', _⟩ := hS.get f1
    have := mapK_get (List.getElem?_eq_getElem hi) hg'
    rw [e1] at this; cases this
    exact ⟨_, k, List.getElem_mem hi, f1, by rw [← f4]; exact e3, f2, hg'⟩
  have hal1 : ∀ x, x ∈ alive (mapK μ ks) K → x ∈ alive μ h1 := fun x hx => by
    obtain ⟨b, k, _, h2, h3, _, h5⟩ := halk x hx
    exact mem_alive.2 ⟨b, k, h5, h2, h3⟩
  have hmk : ∀ x, x ∈ mapK μ ks → ∃ b k, b ∈ ks ∧ h1[b]? = some k ∧ k.st.known = true ∧ μ[b]? = some x := fun x hx => by
    obtain ⟨i, hi⟩ := List.getElem?_of_mem hx
    have hil : i < ks.length := by have := (List.getElem?_eq_some_iff.1 hi).1; simpa [mapK] using this
    obtain ⟨k, k', f1, f2, _, _⟩ := hblk i _ (List.getElem?_eq_getElem hil)
    obtain ⟨g', hg', _⟩ := hS.get f1
    have := mapK_get (List.getElem?_eq_getElem hil) hg'
    rw [hi] at this; cases this
    exact ⟨_, k, List.getElem_mem hil, f1, f2, hg'⟩
  have hold : ∀ (x : Nat) (k : Blk) (g : Nat), x ∉ ks → h1[x]? = some k → k.st.isMut = true → μ[x]? = some g → g ∈ outer X μ h1 ks := fun x k g hx hk hm hg => by
    refine List.mem_append.2 (.inr (List.mem_filter.2 ⟨mem_alive.2 ⟨x, k, hg, hk, hm⟩, ?_⟩))
    simp only [Bool.not_eq_true', List.contains_eq_mem, decide_eq_false_iff_not]
    intro hmem
    obtain ⟨b, k2, e1, e2, e3, e4⟩ := hmk g hmem
    exact hS.inj x b k k2 g (fun e => hx (e ▸ e1)) hk e2 hm e3 hg e4
  have hmem3 : ∀ x, x ∈ alive (μ ++ μ2.drop ks.length) (merge h1 ks H2) → x ∈ outer X μ h1 ks ∧ x ∈ alive μ h1 ∨ x ∈ alive μ2 H2 := fun x hx => by
    obtain ⟨i, k, e1, e2, e3⟩ := mem_alive.1 hx
    rcases hget i k e2 with ⟨f1, _, f2, f3⟩ | ⟨j, k0, _, f2, rfl, f4⟩
    · exact .inl ⟨hold i k x f1 f2 e3 (f3 x e1), mem_alive.2 ⟨i, k, f3 x e1, f2, e3⟩⟩
    · exact .inr (mem_alive.2 ⟨j, k0, f4 x e1, f2, e3⟩)
  have hL3 : ∀ x, x ∈ X ++ alive (μ ++ μ2.drop ks.length) (merge h1 ks H2) → x ∈ outer X μ h1 ks ++ alive μ2 H2 := fun x hx => by
    rcases List.mem_append.1 hx with hx | hx
    · exact List.mem_append.2 (.inl (List.mem_append.2 (.inl hx)))
    · rcases hmem3 x hx with ⟨h, _⟩ | h
      · exact List.mem_append.2 (.inl h)
      · exact List.mem_append.2 (.inr h)
  have hT3 : Stp μ h1 w (μ ++ μ2.drop ks.length) (merge h1 ks H2) w2 := by
    refine ⟨hT.keep.mono hal1, fun b g hb => by rw [List.getElem?_append_left (List.getElem?_eq_some_iff.1 hb).1]; exact hb, fun x hx hlt => ?_⟩
    rcases hmem3 x hx with ⟨_, h⟩ | h
    · exact h
    · exact hal1 x (hT.old x h hlt)
  refine ⟨μ ++ μ2.drop ks.length, ⟨?_, ?_, fun g hg => Nat.lt_of_lt_of_le (hS.xlt g hg) hT.keep.size, ?_, ?_, ?_⟩, hT3, AV.rep_ren hL3 hf hv, hT.keep.mono fun x hx => by
    obtain ⟨i, q, e1, _, _⟩ := mem_alive.1 hx
    exact List.mem_of_getElem? e1⟩
  · unfold merge
    simp only [List.length_append, List.length_drop, List.length_map, setAll_length]
    omega
  · intro g hg
    rcases List.mem_append.1 hg with hg | hg
    · exact Nat.lt_of_lt_of_le (hS.lt g hg) hT.keep.size
    · exact hS2.lt g (List.mem_of_mem_drop hg)
  · intro i k g hi hk hg
    rcases hget i k hi with ⟨f1, _, f2, f3⟩ | ⟨j, k0, _, f2, rfl, f4⟩
    · exact hS.out i k g f2 hk (f3 g hg)
    · exact fun hx => hS2.out j k0 g f2 hk (f4 g hg) (List.mem_append.2 (.inl hx))
  · intro i j k k' g hij hi hj hm hk hgi hgj
    rcases hget i k hi with ⟨f1, _, f2, f3⟩ | ⟨i', k0, e1, f2, rfl, f4⟩ <;> rcases hget j k' hj with ⟨q1, _, q2, q3⟩ | ⟨j', k1, e2, q2, rfl, q4⟩
    · exact hS.inj i j k k' g hij f2 q2 hm hk (f3 g hgi) (q3 g hgj)
    · exact hS2.out j' k1 g q2 hk (q4 g hgj) (hold i k g f1 f2 hm (f3 g hgi))
    · have hga : g ∈ alive μ2 H2 := mem_alive.2 ⟨i', k0, f4 g hgi, f2, hm⟩
      obtain ⟨b, kb, c1, c2, c3, c4, c5⟩ := halk g (hT.old g hga (hS.lt g (List.mem_of_getElem? (q3 g hgj))))
      exact hS.inj b j kb k' g (fun e => q1 (e ▸ c1)) c2 q2 c3 hk c5 (q3 g hgj)
    · exact hS2.inj i' j' k0 k1 g (fun e => hij (by rw [e1, e2, e])) f2 q2 hm hk (f4 g hgi) (q4 g hgj)
  · intro i k g hi hk hg
    rcases hget i k hi with ⟨f1, _, f2, f3⟩ | ⟨j, k0, _, f2, rfl, f4⟩
    · obtain ⟨cur, hc, hl⟩ := hS.blk i k g f2 hk (f3 g hg)
      refine ⟨cur, ?_, hl.carry hT3.carry⟩
      rw [hT.keep.block g (fun hx => ?_) (hS.lt g (List.mem_of_getElem? (f3 g hg)))]
      · exact hc
      · obtain ⟨b, kb, c1, c2, c3, c4, c5⟩ := halk g hx
        exact hS.inj b i kb k g (fun e => f1 (e ▸ c1)) c2 f2 c3 hk c5 (f3 g hg)
    · obtain ⟨cur, hc, hl⟩ := hS2.blk j k0 g f2 hk (f4 g hg)
      exact ⟨cur, hc, hl.ren hL3 hf⟩
end
end Go.Proofs.Sh
/- A run on shadows is sound. -/
namespace Go.Proofs.Sh
open Go.RowKit

section
variable {P : Program} {X μ : List Nat} {s : ASt} {a : Act} {w : World} {o : Oper} {v : AV} {h' : List Blk}

theorem ares_val {x : Option AV} {h : List Blk} (e : ares x h = .val v h') : x = some v ∧ h' = h := by
  unfold ares at e; split at e
  · injection e with e1 e2; exact ⟨by rw [e1], e2.symm⟩
  · cases e
theorem ares1_val {x : Operand} {g : AV → Option AV} (e : ares1 s x g = .val v h') : ∃ u, s.eval x = some u ∧ g u = some v ∧ h' = s.h := by
  unfold ares1 at e; split at e
  · rename_i u hu; obtain ⟨e1, e2⟩ := ares_val e; exact ⟨u, hu, e1, e2⟩
  · cases e
theorem ares2_val {x y : Operand} {g : AV → AV → Option AV} (e : ares2 s x y g = .val v h') : ∃ u1 u2, s.eval x = some u1 ∧ s.eval y = some u2 ∧ g u1 u2 = some v ∧ h' = s.h := by
  unfold ares2 at e; split at e
  · rename_i u1 u2 h1 h2; obtain ⟨e1, e2⟩ := ares_val e; exact ⟨u1, u2, h1, h2, e1, e2⟩
  · cases e
theorem ared_val {x : Option (List Blk)} : ared x ≠ .val v h' := by unfold ared; split <;> simp

theorem call_ne_val {c : Call} : acall s c ≠ .val v h' := by
  unfold acall; split
  · split <;> simp
  · simp

theorem aop_val (hF : SimF X μ s a w) (e : aop P s o = .val v h') : OpOK P X μ s a w o v h' := by
  unfold aop at e
  split at e
  · rename_i x ho; obtain ⟨e1, rfl⟩ := ares_val e; exact OpOK.of_pure hF (pure_move ho hF e1)
  · rename_i x ho; obtain ⟨e1, rfl⟩ := ares_val e; exact OpOK.of_pure hF (pure_assign ho hF e1)
  · rename_i c x y ho
    split at e
    · rename_i b v1 v2 h1 h2 h3
      injection e with e1 e2; subst e1 e2
      exact OpOK.of_pure hF (pure_pick ho hF h1 h2 h3)
    · cases e
  · rename_i t ho
    split at e
    · rename_i ti hti
      split at e
      · injection e with e1 e2; subst e1 e2; exact (op_alloc ho hF hti).ok
      · cases e
    · cases e
  · rename_i t x ho
    split at e
    · rename_i cs hx
      injection e with e1 e2; subst e1 e2; exact (op_box ho hF hx).ok
    · cases e
  · rename_i t parts ho; obtain ⟨e1, rfl⟩ := ares_val e; exact OpOK.of_pure hF (op_build ho hF e1)
  · rename_i t len parts ho; exact (op_buildSlice ho hF e).ok
  · rename_i t x ho
    split at e
    · rename_i p hp
      obtain ⟨e1, rfl⟩ := ares_val e
      obtain ⟨g, u, _, _, h3, h4⟩ := op_load ho hF hp e1
      exact ⟨u, w, μ, h3 w rfl, hF.sim, Stp.refl _ _ _, h4⟩
    · cases e
  · rename_i t x y ho
    split at e
    · exact absurd e ared_val
    · cases e
  · rename_i x ho
    split at e
    · rename_i hx; injection e with e1 e2; subst e1 e2; exact OpOK.of_pure hF (pure_nilCheck ho hF hx rfl)
    · rename_i hx; injection e with e1 e2; subst e1 e2; exact OpOK.of_pure hF (pure_nilCheck ho hF hx rfl)
    · rename_i hx; injection e with e1 e2; subst e1 e2; exact OpOK.of_pure hF (pure_nilCheck ho hF hx rfl)
    · cases e
  · rename_i op t x y t' ho
    obtain ⟨u1, u2, h1, h2, h3, rfl⟩ := ares2_val e
    exact OpOK.of_pure hF (pure_bin ho hF h1 h2 h3)
  · rename_i op t x ho
    obtain ⟨u1, h1, h3, rfl⟩ := ares1_val e
    exact OpOK.of_pure hF (pure_un ho hF h1 h3)
  · rename_i t t' x ho
    split at e
    · rename_i k' n k hx ht'
      split at e
      · rename_i ht; injection e with e1 e2; subst e1 e2; exact OpOK.of_pure hF (pure_conv ho hF hx ht ht')
      · cases e
    · cases e
  · rename_i f first cs ho
    split at e
    · rename_i hf
      split at e
      · rename_i cc hcc; injection e with e1 e2; subst e1 e2; exact OpOK.of_pure hF (pure_makeFunc ho hF hf hcc)
      · cases e
    · cases e
  · rename_i t l c ho
    split at e
    · rename_i h1 h2; exact (op_makeSlice ho hF h1 h2 e).ok
    · cases e
  · rename_i t x lo hi ho
    obtain ⟨u1, h1, h3, rfl⟩ := ares1_val e
    exact OpOK.of_pure hF (pure_slice ho hF h1 h3)
  · rename_i t x f ho
    obtain ⟨u1, h1, h3, rfl⟩ := ares1_val e
    exact OpOK.of_pure hF (pure_fieldAddr ho hF h1 h3)
  · rename_i t x f ho
    obtain ⟨u1, h1, h3, rfl⟩ := ares1_val e
    exact OpOK.of_pure hF (pure_field ho hF h1 h3)
  · rename_i t x i ho
    obtain ⟨u1, u2, h1, h2, h3, rfl⟩ := ares2_val e
    exact OpOK.of_pure hF (pure_indexAddr ho hF h1 h2 h3)
  · rename_i x k ho
    split at e
    · rename_i vs hx; obtain ⟨e1, rfl⟩ := ares_val e; exact OpOK.of_pure hF (pure_extract ho hF hx e1)
    · cases e
  · rename_i t x i ho
    obtain ⟨u1, u2, h1, h2, h3, rfl⟩ := ares2_val e
    exact OpOK.of_pure hF (pure_index ho hF h1 h2 h3)
  · rename_i b args ts ho
    unfold abuiltin at e
    split at e
    · rename_i x t ha ht
      obtain ⟨u1, h1, h3, rfl⟩ := ares1_val e
      have ha' : args = #[x] := by rw [← Array.toArray_toList (xs := args), ha]
      have ht' : ts = #[t] := by rw [← Array.toArray_toList (xs := ts), ht]
      subst ha' ht'
      exact OpOK.of_pure hF (pure_len ho hF h1 h3)
    · rename_i x y t t' ha ht
      obtain ⟨u1, u2, h1, h2, h3, rfl⟩ := ares2_val e
      have ha' : args = #[x, y] := by rw [← Array.toArray_toList (xs := args), ha]
      subst ha'
      exact OpOK.of_pure hF (pure_max ho hF h1 h2 h3)
    · rename_i x y t t' ha ht
      have ha' : args = #[x, y] := by rw [← Array.toArray_toList (xs := args), ha]
      have ht' : ts = #[t, t'] := by rw [← Array.toArray_toList (xs := ts), ht]
      subst ha' ht'
      split at e
      · rename_i h1 h2
        split at e
        · rename_i htt; subst htt; exact (op_append ho hF h1 h2 e).ok
        · cases e
      · cases e
    · cases e
  · exact absurd e call_ne_val
  · cases e

theorem aop_skip' (hF : SimF X μ s a w) (e : aop P s o = .skip h') : ∃ w', (execOp a.eval o).run P w = .ok .skip w' ∧ (Sim X μ h' w' ∧ Stp μ s.h w μ h' w') ∧ ∀ t x y n b i j g, o.op = .store t x y → s.eval x = some (.one (.ptr n b i j)) → μ[b]? = some g → Keep [g] w w' := by
  have na : ∀ (x : Option AV) (h : List Blk), ares x h ≠ .skip h' := fun x h => by unfold ares; split <;> simp
  have n1 : ∀ (x : Operand) (g : AV → Option AV), ares1 s x g ≠ .skip h' := fun x g => by unfold ares1; split; exact na _ _; simp
  have n2 : ∀ (x y : Operand) (g : AV → AV → Option AV), ares2 s x y g ≠ .skip h' := fun x y g => by unfold ares2; split; exact na _ _; simp
  have n3 : ∀ t l p, abuildSlice P s.h t l p ≠ .skip h' := fun t l p => by unfold abuildSlice; (repeat' split) <;> simp
  have n4 : ∀ t x y, amakeSlice P s.h t x y ≠ .skip h' := fun t x y => by unfold amakeSlice; (repeat' split) <;> simp
  have n5 : ∀ t x y, aappend P s.h t x y ≠ .skip h' := fun t x y => by unfold aappend asame aappend1; (repeat' split) <;> simp
  have n6 : ∀ c, acall s c ≠ .skip h' := fun c => by unfold acall; (repeat' split) <;> simp
  unfold aop at e
  split at e
  case h_9 t x y ho =>
    split at e
    · rename_i p v hp hv
      unfold ared at e
      split at e
      · rename_i h2 hst
        injection e with e; subst e
        obtain ⟨w', q1, q2, q3⟩ := op_store ho hF hp hv hst
        refine ⟨w', q1, q2, fun t' x' y' n b i j g e1 e2 e3 => ?_⟩
        rw [ho] at e1; cases e1
        rw [hp] at e2; cases e2
        exact q3 n b i j g rfl e3
      · cases e
    · cases e
  all_goals exfalso
  all_goals first
    | exact na _ _ e
    | exact n1 _ _ e
    | exact n2 _ _ _ e
    | exact n3 _ _ _ e
    | exact n6 _ e
    | (cases e; done)
    | (split at e <;> first | (cases e; done) | exact na _ _ e | exact n4 _ _ _ e | (split at e <;> first | (cases e; done) | exact na _ _ e))
    | (unfold abuiltin at e; split at e <;> first | (cases e; done) | exact n1 _ _ e | exact n2 _ _ _ e | (split at e <;> first | (cases e; done) | (split at e <;> first | (cases e; done) | exact n5 _ _ _ e)))

theorem aop_skip (hF : SimF X μ s a w) (e : aop P s o = .skip h') : ∃ w', (execOp a.eval o).run P w = .ok .skip w' ∧ Sim X μ h' w' ∧ Stp μ s.h w μ h' w' := by
  obtain ⟨w', q1, q2, _⟩ := aop_skip' hF e
  exact ⟨w', q1, q2.1, q2.2⟩

theorem vals_rep {L : List Nat} : ∀ {os : List Operand} {vs : List AV}, (∀ o v, s.eval o = some v → AV.rep L μ w v (a.eval o)) → vals (os.map s.eval) = some vs → AV.repl L μ w vs (os.map a.eval)
  | [], cs, _, h => by simp only [List.map_nil, vals, Option.some.injEq] at h; subst h; simp [AV.repl]
  | o :: os, cs, he, h => by
    cases hq : s.eval o with
    | none => simp [vals, hq] at h
    | some v =>
      simp only [List.map_cons, hq, vals, Option.map_eq_some_iff] at h
      obtain ⟨cs', h2, rfl⟩ := h
      simp only [List.map_cons, AV.repl]
      exact ⟨_, _, rfl, he o _ hq, vals_rep he h2⟩
theorem AV.repl_append {L : List Nat} {vs vs2 : List AV} {us us2 : List Value} (h : AV.repl L μ w vs us) (k : AV.repl L μ w vs2 us2) : AV.repl L μ w (vs ++ vs2) (us ++ us2) := by
  induction vs generalizing us with
  | nil => simp only [AV.repl] at h; subst h; simpa using k
  | cons v vs ih =>
    simp only [AV.repl] at h
    obtain ⟨u, us', rfl, h2, h3⟩ := h
    simp only [List.cons_append, AV.repl]
    exact ⟨u, us' ++ us2, rfl, h2, ih h3⟩
theorem AV.repl_one {L : List Nat} : ∀ {cs : List C} {us : List Value}, C.repl L μ w cs us → AV.repl L μ w (cs.map .one) us
  | [], us, h => by simpa [C.repl, AV.repl] using h
  | c :: cs, us, h => by
    simp only [C.repl] at h
    obtain ⟨u, us', rfl, h2, h3⟩ := h
    simp only [List.map_cons, AV.repl, AV.rep]
    exact ⟨u, us', rfl, h2, AV.repl_one h3⟩

def IsFn (P : Program) (f : FuncId) : Prop := ∀ (args : Array Value) (w : World), (callFunc f args).run P w = .ok (.enter f args) w

theorem aop_call {f : FuncId} {args : List AV} (hF : SimF X μ s a w) (e : aop P s o = .call f args) : ∃ vs : Array Value, AV.repl (X ++ alive μ s.h) μ w args vs.toList ∧ (IsFn P f → (execOp a.eval o).run P w = .ok (.enter f vs) w) := by
  have na : ∀ (x : Option AV) (h : List Blk), ares x h ≠ .call f args := fun x h => by unfold ares; split <;> simp
  have n1 : ∀ (x : Operand) (g : AV → Option AV), ares1 s x g ≠ .call f args := fun x g => by unfold ares1; split; exact na _ _; simp
  have n2 : ∀ (x y : Operand) (g : AV → AV → Option AV), ares2 s x y g ≠ .call f args := fun x y g => by unfold ares2; split; exact na _ _; simp
  have n3 : ∀ t l p, abuildSlice P s.h t l p ≠ .call f args := fun t l p => by unfold abuildSlice; (repeat' split) <;> simp
  have n4 : ∀ t x y, amakeSlice P s.h t x y ≠ .call f args := fun t x y => by unfold amakeSlice; (repeat' split) <;> simp
  have n5 : ∀ t x y, aappend P s.h t x y ≠ .call f args := fun t x y => by unfold aappend asame aappend1; (repeat' split) <;> simp
  unfold aop at e
  split at e
  case h_23 c hb ho =>
    unfold acall at e
    split at e
    · rename_i x hc
      split at e
      · rename_i g cs vs hx hv
        injection e with e1 e2
        subst e1 e2
        have h1 := hF.eval hx
        simp only [AV.rep, C.rep] at h1
        obtain ⟨arr, he, hr⟩ := h1
        refine ⟨(c.args.map a.eval) ++ arr, ?_, fun hfn => ?_⟩
        · rw [Array.toList_append, Array.toList_map]
          exact AV.repl_append (vals_rep (fun o v hv => hF.eval hv) hv) (AV.repl_one hr)
        · simp only [execOp, ho, resolve, hc, he, Deferred.ofValue, Sem.run_bind, Sem.run_pure, Result.andThen_ok, invoke]
          simpa using hfn (c.args.map a.eval ++ arr) w
      · cases e
    · cases e
  all_goals exfalso
  all_goals first
    | exact na _ _ e
    | exact n1 _ _ e
    | exact n2 _ _ _ e
    | exact n3 _ _ _ e
    | (cases e; done)
    | (split at e <;> first | (cases e; done) | exact na _ _ e | exact n4 _ _ _ e | (split at e <;> first | (cases e; done) | exact na _ _ e))
    | (split at e <;> first | (cases e; done) | (unfold ared at e; split at e <;> cases e))
    | (unfold abuiltin at e; split at e <;> first | (cases e; done) | exact n1 _ _ e | exact n2 _ _ _ e | (split at e <;> first | (cases e; done) | (split at e <;> first | (cases e; done) | exact n5 _ _ _ e)))
theorem abytes_spec {L : List Nat} : ∀ {rows : List (List C)} {ns : List Int} {us : List Value}, abytes rows = some ns → C.repl L μ w rows.flatten us → us = ns.map (Value.int .u8) ∧ rows.length = ns.length
  | [], ns, us, h, hr => by
    simp only [abytes, Option.some.injEq] at h
    subst h
    simpa [C.repl] using hr
  | [] :: l, ns, us, h, hr => by simp [abytes] at h
  | (c :: d :: r) :: l, ns, us, h, hr => by cases c <;> simp [abytes] at h
  | [c] :: l, ns, us, h, hr => by
    unfold abytes at h
    split at h
    · simp at *
    · rename_i n l' hc
      simp only [List.cons.injEq, and_true] at hc
      obtain ⟨rfl, rfl⟩ := hc
      split at h
      · rename_i ns' h'
        cases h
        simp only [List.flatten_cons, List.cons_append, List.nil_append, C.repl] at hr
        obtain ⟨u, us', rfl, h2, h3⟩ := hr
        simp only [C.rep] at h2
        obtain ⟨e1, e2⟩ := abytes_spec h' h3
        exact ⟨by rw [e1, h2.1]; rfl, by simp [e2]⟩
      · cases h
    · cases h
theorem op_convB (hF : SimF X μ s a w) (e : aconvB P s o = .val v h') : OpOK P X μ s a w o v h' := by
  unfold aconvB at e
  split at e
  case h_2 => cases e
  rename_i t b x ho
  split at e
  case h_2 => cases e
  rename_i vx hx
  split at e
  case h_2 => cases e
  rename_i r rs ti hrows hti
  obtain ⟨i, d, z, hi, hd, hz, hzc, hzs, rfl⟩ := tinfo_spec hti
  split at e
  case isFalse => cases e
  rename_i hk
  obtain ⟨hk1, hk2, hk3⟩ := hk
  obtain ⟨el, rfl⟩ := tkind_slice (tkindP_eq hk1 (by decide))
  simp only [telem] at hk3
  obtain ⟨db, hdb, hkb⟩ := tk_some hk2 (by decide)
  have := tkind_string hkb
  subst this
  split at e
  case h_2 => cases e
  rename_i ns hns
  injection e with e1 e2
  subst e1 e2
  obtain ⟨ad, c, news, he2, hnr, hnc⟩ := arows_spec hF.sim hrows (hF.eval hx)
  obtain ⟨e1, e2⟩ := abytes_spec hns hnr
  refine ⟨.string (bytesOf ns), w, μ, ?_, hF.sim, Stp.refl _ _ _, AV.rep_sc rfl⟩
  have hl := run_loadCells_list (P := P) (w := w) ad news hnc
  have hlen : rs.length + 1 = news.length := by rw [e1, List.length_map, ← e2]; rfl
  simp only [execOp, ho, Sem.run_bind]
  rw [he2, run_convert_bytes_string w t b el (some ad) _ c hd (tint_some hk3) hdb, hlen, run_bytesToString w ad _ c ns (by rw [hl, e1])]
  rfl
theorem aopX_val (hF : SimF X μ s a w) (e : aopX P s o = .val v h') : OpOK P X μ s a w o v h' := by
  unfold aopX aor at e
  split at e
  · exact op_convB hF e
  · exact aop_val hF e
theorem aconvB_skip : aconvB P s o ≠ .skip h' := by unfold aconvB; (repeat' split) <;> simp
theorem aconvB_call {f : FuncId} {args : List AV} : aconvB P s o ≠ .call f args := by unfold aconvB; (repeat' split) <;> simp
theorem aopX_skip (e : aopX P s o = .skip h') : aop P s o = .skip h' := by
  unfold aopX aor at e
  split at e
  · exact absurd e aconvB_skip
  · exact e
theorem aopX_call {f : FuncId} {args : List AV} (e : aopX P s o = .call f args) : aop P s o = .call f args := by
  unfold aopX aor at e
  split at e
  · exact absurd e aconvB_call
  · exact e
end
end Go.Proofs.Sh
/- The run on shadows: what it shows of the code. -/
namespace Go.Proofs.Sh
open Go.RowKit

/-- the change from one state to a later one, of which the first N own blocks keep their numbers -/
structure StpN (N : Nat) (μ : List Nat) (H : List Blk) (w : World) (μ' : List Nat) (H' : List Blk) (w' : World) : Prop where
  keep : Keep (alive μ H) w w'
  map : ∀ (b g : Nat), b < N → μ[b]? = some g → μ'[b]? = some g
  old : ∀ g ∈ alive μ' H', g < w.heap.size → g ∈ alive μ H
theorem StpN.refl (N : Nat) (μ : List Nat) (H : List Blk) (w : World) : StpN N μ H w μ H w := ⟨Keep.refl _ _, fun _ _ _ h => h, fun _ h _ => h⟩
theorem StpN.trans {N : Nat} {μ μ1 μ2 : List Nat} {H H1 H2 : List Blk} {w w1 w2 : World} (h : StpN N μ H w μ1 H1 w1) (k : Stp μ1 H1 w1 μ2 H2 w2) : StpN N μ H w μ2 H2 w2 :=
  ⟨h.keep.trans k.keep (fun x hx hl => h.old x hx hl), fun b g hb e => k.map b g (h.map b g hb e), fun g hg hl => h.old g (k.old g hg (Nat.lt_of_lt_of_le hl h.keep.size)) hl⟩

/-- the code ends as K says, in shadows -/
def lift (N : Nat) (X μ : List Nat) (h : List Blk) (w : World) (K : Exit → ASt → Prop) : Exit → Act → World → Prop :=
  fun e a' w' => ∃ s' μ', K e s' ∧ SimF X μ' s' a' w' ∧ StpN N μ h w μ' s'.h w'
def ACode (P : Program) (N : Nat) (c : Code) (s : ASt) (K : Exit → ASt → Prop) : Prop := ∀ X μ0 h0 w0 μ a w, SimF X μ s a w → StpN N μ0 h0 w0 μ s.h w → c.wp P (lift N X μ0 h0 w0 K) a w
def AOps (P : Program) (N : Nat) (all l : List Oper) (s : ASt) (K : Exit → ASt → Prop) : Prop := ∀ X μ0 h0 w0 μ a w, SimF X μ s a w → StpN N μ0 h0 w0 μ s.h w → wpList P all.toArray (lift N X μ0 h0 w0 K) l a w

def AGo (P : Program) (N : Nat) (R : ASt → Prop) : List Item → Exit → ASt → Prop
  | [], e, s => match e with | .normal => R s | .ret => R s | _ => False
  | .goal I :: k, e, s => match e with | .normal => I s | e => AGo P N R k e s
  | .blk id :: k, e, s => match e with | .normal => AGo P N R k .normal s | .exit id' => if id' = id then AGo P N R k .normal s else AGo P N R k (.exit id') s | e => AGo P N R k e s
  | .code c :: k, e, s => match e with | .normal => ACode P N c s (AGo P N R k) | e => AGo P N R k e s
  | .ops l all :: k, e, s => match e with | .normal => AOps P N all l s (AGo P N R k) | e => AGo P N R k e s

def ACall (P : Program) (f : FuncId) (args : List AV) (H : List Blk) (K : AV → List Blk → Prop) : Prop :=
  IsFn P f ∧ ∀ X μ w (vs : Array Value), Sim X μ H w → AV.repl (X ++ alive μ H) μ w args vs.toList →
    Calls P f vs w (fun e w' => ∃ r H' μ' v, e = .returned v ∧ K r H' ∧ Sim X μ' H' w' ∧ Stp μ H w μ' H' w' ∧ AV.rep (X ++ alive μ' H') μ' w' r v)

theorem ACall.mono {P : Program} {f : FuncId} {args : List AV} {H : List Blk} {K K' : AV → List Blk → Prop} (h : ACall P f args H K) (hk : ∀ r H', K r H' → K' r H') : ACall P f args H K' :=
  ⟨h.1, fun X μ w vs hS hr => (h.2 X μ w vs hS hr).mono fun e w' ⟨r, H', μ', v, h1, h2, h3⟩ => ⟨r, H', μ', v, h1, hk r H' h2, h3⟩⟩

/-- what is asked at a call, of the caller's state; ks: the own blocks that the call may change -/
def ACalls (P : Program) (f : FuncId) (args : List AV) (h : List Blk) (ks : List Nat) (K : AV → List Blk → Prop) : Prop :=
  IsFn P f ∧ ∀ X μ w (vs : Array Value), Sim X μ h w → AV.repl (X ++ alive μ h) μ w args vs.toList →
    Calls P f vs w (fun e w' => ∃ r h' μ' v, e = .returned v ∧ K r h' ∧ Sim X μ' h' w' ∧ Stp μ h w μ' h' w' ∧ AV.rep (X ++ alive μ' h') μ' w' r v ∧ Keep (mapK μ ks) w w')
theorem ACalls.mono {P : Program} {f : FuncId} {args : List AV} {h : List Blk} {ks : List Nat} {K K' : AV → List Blk → Prop} (hc : ACalls P f args h ks K) (hk : ∀ r H', K r H' → K' r H') : ACalls P f args h ks K' :=
  ⟨hc.1, fun X μ w vs hS hr => (hc.2 X μ w vs hS hr).mono fun e w' ⟨r, H', μ', v, h1, h2, h3⟩ => ⟨r, H', μ', v, h1, hk r H' h2, h3⟩⟩

def ADis (P : Program) (N : Nat) (R : ASt → Prop) : Out → Prop
  | .ret s => R s
  | .call f args h dst k s => ∃ ks, ACalls P f args h ks (fun r h' => AGo P N R k .normal (ASt.put ⟨s.n, s.t, h'⟩ dst r))
  | .loop c k s => AGo P N R (.code (.loop c) :: k) .normal s
  | .drawn id l k s => AGo P N R (.code (.region id l.toArray true) :: k) .normal s
  | .goal I s => I s
  | .bad _ => False
  | .fuel k s => AGo P N R k .normal s

section
variable {P : Program} {N : Nat} {R : ASt → Prop}

theorem AGo_ret {s : ASt} (h : R s) : ∀ k, AGo P N R k .ret s
  | [] => h
  | .goal _ :: k => AGo_ret h k
  | .blk _ :: k => AGo_ret h k
  | .code _ :: k => AGo_ret h k
  | .ops _ _ :: k => AGo_ret h k
theorem AGo_exit {s : ASt} {id : Nat} (k : List Item) : ∀ {k' : List Item}, exitK id k = some k' → AGo P N R k' .normal s → AGo P N R k (.exit id) s := by
  induction k with
  | nil => intro k' h _; simp [exitK] at h
  | cons x k ih =>
    intro k' h hg
    cases x with
    | blk id' =>
      simp only [exitK] at h
      simp only [AGo]
      split at h
      · rename_i e; subst e; cases h; simpa using hg
      · rename_i e; rw [if_neg (fun e' => e e'.symm)]; exact ih h hg
    | goal I => simp only [exitK] at h; exact ih h hg
    | code c => simp only [exitK] at h; exact ih h hg
    | ops l a => simp only [exitK] at h; exact ih h hg

theorem AGo_skip {x : Item} {k : List Item} (hx : (match x with | .code _ => true | .ops _ _ => true | _ => false) = true) {e : Exit} {s : ASt} (he : e ≠ .normal) (h : AGo P N R (x :: k) e s) : AGo P N R k e s := by
  cases x <;> simp at hx <;> cases e <;> first | exact absurd rfl he | exact h

theorem go_seq {x y : Code} {s : ASt} {k : List Item} (h : AGo P N R (.code x :: .code y :: k) .normal s) : AGo P N R (.code (.seq x y) :: k) .normal s := by
  intro X μ0 h0 w0 μ a w hF hT
  refine wp_seq (Code.wp_mono ?_ (h X μ0 h0 w0 μ a w hF hT))
  intro e a' w' ⟨s', μ', q1, q2, q3⟩
  cases e with
  | normal => exact q1 X μ0 h0 w0 μ' a' w' q2 q3
  | _ => exact ⟨s', μ', AGo_skip rfl (by simp) q1, q2, q3⟩

theorem go_block {c : Code} {id : Nat} {s : ASt} {k : List Item} (h : AGo P N R (.code c :: .blk id :: k) .normal s) : AGo P N R (.code (.block id c) :: k) .normal s := by
  intro X μ0 h0 w0 μ a w hF hT
  refine wp_block (Code.wp_mono ?_ (h X μ0 h0 w0 μ a w hF hT))
  intro e a' w' ⟨s', μ', q1, q2, q3⟩
  cases e with
  | exit id' =>
    simp only [Exit.inBlock]
    simp only [AGo] at q1
    split
    · rename_i e; rw [if_pos e] at q1; exact ⟨s', μ', q1, q2, q3⟩
    · rename_i e; rw [if_neg e] at q1; exact ⟨s', μ', q1, q2, q3⟩
  | _ => exact ⟨s', μ', q1, q2, q3⟩

theorem go_cond {c : Operand} {x y : Code} {b : Bool} {s : ASt} {k : List Item} (hc : s.eval c = some (.one (.sc (.bool b)))) (h : AGo P N R (.code (if b then x else y) :: k) .normal s) : AGo P N R (.code (.cond c x y) :: k) .normal s := by
  intro X μ0 h0 w0 μ a w hF hT
  exact wp_cond (AV.sc_eq (hF.eval hc)) (h X μ0 h0 w0 μ a w hF hT)

theorem go_region {id : Nat} {ops : Array Oper} {s : ASt} {k : List Item} (h : AGo P N R (.ops ops.toList ops.toList :: k) .normal s) : AGo P N R (.code (.region id ops false) :: k) .normal s := by
  intro X μ0 h0 w0 μ a w hF hT
  have := h X μ0 h0 w0 μ a w hF hT
  exact wp_region_list (by simpa using this)

theorem go_nil {all : List Oper} {s : ASt} {k : List Item} (h : AGo P N R k .normal s) : AGo P N R (.ops [] all :: k) .normal s := by
  intro X μ0 h0 w0 μ a w hF hT
  exact wpList_nil ⟨s, μ, h, hF, hT⟩

theorem wanted_spec {X μ : List Nat} {s : ASt} {a : Act} {w : World} (hF : SimF X μ s a w) {all : List Oper} {o : Oper} {b : Bool} (h : wantedA all s.t o.guard = some b) : Region.wanted o (yielded all.toArray a.tmps) = b := by
  unfold wantedA at h
  unfold Region.wanted
  split at h
  · rename_i hg; cases h; rw [hg]
  · rename_i j want hg
    rw [hg]
    split at h
    · rename_i oj hj
      split at h
      · rename_i d hd
        have hy : ∀ v, look d s.t = some v → AV.rep (X ++ alive μ s.h) μ w v (a.tmps.getD d undef) := fun v hv => hF.reg d v hv
        split at h
        · rename_i bb hl
          cases h
          have := AV.sc_eq (hy _ hl)
          rw [Array.getD_eq_getD_getElem?] at this
          have e : a.tmps[d]? = some (.bool bb) := by
            cases hq : a.tmps[d]? with
            | none => rw [hq] at this; simp [undef] at this
            | some x => rw [hq] at this; simp at this; rw [this]
          simp [yielded, hj, hd, e]
        · rename_i hl
          cases h
          have := hy _ hl
          simp only [AV.rep] at this
          obtain ⟨arr, h1, h2⟩ := this
          rw [Array.getD_eq_getD_getElem?] at h1
          have e : yielded all.toArray a.tmps j = none := by
            simp only [yielded, List.getElem?_toArray, hj, Option.bind_some, hd]
            cases hq : a.tmps[d]? with
            | none => rfl
            | some x => rw [hq] at h1; simp at h1; subst h1; rfl
          simp [e]
        · cases h
      · cases h
    · cases h

theorem go_off {o : Oper} {l all : List Oper} {s : ASt} {k : List Item} (hw : wantedA all s.t o.guard = some false) (h : AGo P N R (.ops l all :: k) .normal (s.put o.dst aundef)) : AGo P N R (.ops (o :: l) all :: k) .normal s := by
  intro X μ0 h0 w0 μ a w hF hT
  unfold wpList
  rw [wanted_spec hF hw, if_neg (by simp)]
  have hh : (s.put o.dst aundef).h = s.h := by cases hd : o.dst <;> simp only [ASt.put]; split <;> rfl
  exact h X μ0 h0 w0 μ _ w (hF.put (AV.rep_undef _ _ _)) (by rw [hh]; exact hT)

theorem put_h (s : ASt) (d : Option Tmp) (v : AV) : (s.put d v).h = s.h := by cases d <;> simp only [ASt.put]; split <;> rfl

theorem go_val {o : Oper} {l all : List Oper} {s : ASt} {k : List Item} {v : AV} {h' : List Blk} (hw : wantedA all s.t o.guard = some true) (ho : aopX P s o = .val v h') (h : AGo P N R (.ops l all :: k) .normal (ASt.put ⟨s.n, s.t, h'⟩ o.dst v)) : AGo P N R (.ops (o :: l) all :: k) .normal s := by
  intro X μ0 h0 w0 μ a w hF hT
  unfold wpList
  rw [wanted_spec hF hw, if_pos rfl]
  left
  obtain ⟨u, w', μ', h1, h2, h3, h4⟩ := aopX_val hF ho
  unfold Oper.wp
  rw [h1]
  have hF' := (hF.step h3 h2).put (d := o.dst) h4
  exact h X μ0 h0 w0 μ' _ w' hF' (by rw [put_h]; exact hT.trans h3)

theorem go_do {o : Oper} {l all : List Oper} {s : ASt} {k : List Item} {h' : List Blk} (hw : wantedA all s.t o.guard = some true) (ho : aop P s o = .skip h') (h : AGo P N R (.ops l all :: k) .normal (ASt.put ⟨s.n, s.t, h'⟩ o.dst aundef)) : AGo P N R (.ops (o :: l) all :: k) .normal s := by
  intro X μ0 h0 w0 μ a w hF hT
  unfold wpList
  rw [wanted_spec hF hw, if_pos rfl]
  left
  obtain ⟨w', h1, h2, h3⟩ := aop_skip hF ho
  unfold Oper.wp
  rw [h1]
  have hF' := (hF.step h3 h2).put (d := o.dst) (AV.rep_undef _ _ _)
  exact h X μ0 h0 w0 μ _ w' hF' (by rw [put_h]; exact hT.trans h3)

theorem outer_of {X μ : List Nat} {h1 : List Blk} {ks : List Nat} : (∀ x ∈ outer X μ h1 ks, x ∈ X ++ alive μ h1) := fun x hx => by
  unfold outer at hx
  rcases List.mem_append.1 hx with hx | hx
  · exact List.mem_append.2 (.inl hx)
  · exact List.mem_append.2 (.inr (List.mem_filter.1 hx).1)

theorem calls_of {X μ : List Nat} {h : List Blk} {w : World} {f : FuncId} {args : List AV} {ks : List Nat} {K : AV → List Blk → Prop} {vs : Array Value} (hS : Sim X μ h w) (hr : AV.repl (X ++ alive μ h) μ w args vs.toList) (hc : ACalls P f args h ks K) :
    IsFn P f ∧ Calls P f vs w (fun e w' => ∃ r h' μ' v, e = .returned v ∧ K r h' ∧ Sim X μ' h' w' ∧ Stp μ h w μ' h' w' ∧ AV.rep (X ++ alive μ' h') μ' w' r v ∧ Keep (mapK μ ks) w w') := ⟨hc.1, hc.2 X μ w vs hS hr⟩

/-- a call to which the own blocks ks are handed over -/
theorem acalls_at {h : List Blk} {f : FuncId} {args : List AV} {K : AV → List Blk → Prop} (ks : List Nat) {args' : List AV} {H h1 : List Blk} {K' : AV → List Blk → Prop} (hp : prepC h ks args = some (args', H, h1)) (hc : ACall P f args' H K') (hK : ∀ r H', K' r H' → K (r.ren (back h1.length ks)) (merge h1 ks H')) : ACalls P f args h ks K := by
  obtain ⟨hp, hkn⟩ := prepC_some hp
  obtain ⟨hfn, hcall⟩ := hc
  refine ⟨hfn, fun X μ w vs hS hr => ?_⟩
  have hH := prep_sound hS hp hr
  have hX2 : ∀ (m g : Nat) (k : Blk), (mapK μ ks)[m]? = some g → H[m]? = some k → k.st.known = true → g ∉ outer X μ h1 ks := fun i g q hi hq hk hx => by
    have hg : g ∈ mapK μ ks := List.mem_of_getElem? hi
    unfold outer at hx
    rcases List.mem_append.1 hx with hx | hx
    · have hil : i < ks.length := by have := (List.getElem?_eq_some_iff.1 hi).1; simpa [mapK] using this
      obtain ⟨k, k', f1, f3, f4⟩ := hH.blk i _ (List.getElem?_eq_getElem hil)
      rw [hq] at f3; cases f3
      obtain ⟨g', hg', _⟩ := hH.sim.get f1
      have := mapK_get (List.getElem?_eq_getElem hil) hg'
      rw [hi] at this; cases this
      exact hH.sim.out _ k g f1 (by rw [← f4]; exact hk) hg' hx
    · have := (List.mem_filter.1 hx).2
      simp at this
      exact this hg
  obtain ⟨q1, q2⟩ := hH.out (outer X μ h1 ks) outer_of hX2
  refine (hcall _ _ w vs q1 q2).mono fun e w' ⟨r, H', μ', v, he, hk, s1, s2, s3⟩ => ?_
  obtain ⟨μ3, t1, t2, t3, t4⟩ := take_back hH hkn s1 s2 s3
  exact ⟨_, _, μ3, v, he, hK _ _ hk, t1, hH.stp.trans t2, t3, t4⟩

theorem go_call {o : Oper} {l all : List Oper} {s : ASt} {k : List Item} {f : FuncId} {args : List AV} {ks : List Nat} (hw : wantedA all s.t o.guard = some true) (ho : aop P s o = .call f args)
    (h : ACalls P f args s.h ks (fun r h' => AGo P N R (.ops l all :: k) .normal (ASt.put ⟨s.n, s.t, h'⟩ o.dst r))) : AGo P N R (.ops (o :: l) all :: k) .normal s := by
  intro X μ0 h0 w0 μ a w hF hT
  unfold wpList
  rw [wanted_spec hF hw, if_pos rfl]
  left
  obtain ⟨vs, h1, h2⟩ := aop_call hF ho
  obtain ⟨hfn, hc⟩ := calls_of hF.sim h1 h
  unfold Oper.wp
  rw [h2 hfn]
  refine Calls.mono hc fun e w' ⟨r, h', μ', v, he, hk, s1, s2, s3, _⟩ => ?_
  subst he
  have hF' := (hF.step s2 s1).put (d := o.dst) s3
  exact hk X μ0 h0 w0 μ' _ w' hF' (by rw [put_h]; exact hT.trans s2)

theorem arun_sound : ∀ (n : Nat) (k : List Item) (s : ASt), ADis P N R (arun P n k s) → AGo P N R k .normal s := by
  intro n
  induction n with
  | zero => intro k s h; unfold arun at h; exact h
  | succ n ih =>
    intro k s h
    have hops : ∀ (o : Oper) (l all : List Oper) (k : List Item), ADis P N R (awant P n (wantedA all s.t o.guard) o l all k s) → AGo P N R (.ops (o :: l) all :: k) .normal s := by
      intro o l all k h
      cases hw : wantedA all s.t o.guard with
      | none => rw [hw, awant] at h; exact h.elim
      | some b =>
        cases b with
        | false => rw [hw, awant] at h; exact go_off hw (ih _ _ h)
        | true =>
          rw [hw, awant] at h
          cases ho : aopX P s o with
          | val v h' => rw [ho, astep] at h; exact go_val hw ho (ih _ _ h)
          | skip h' => rw [ho, astep] at h; exact go_do hw (aopX_skip ho) (ih _ _ h)
          | call f args =>
            rw [ho, astep] at h
            obtain ⟨ks, h⟩ := h
            exact go_call hw (aopX_call ho) h
          | bad => rw [ho, astep] at h; exact h.elim
    cases k with
    | nil => rw [arun] at h; exact h
    | cons x k =>
      cases x with
      | goal I => rw [arun] at h; exact h
      | blk id => rw [arun] at h; show AGo P N R k .normal s; exact ih _ _ h
      | ops l all =>
        cases l with
        | nil => rw [arun] at h; exact go_nil (ih _ _ h)
        | cons o l => rw [arun] at h; exact hops o l all k h
      | code c =>
        cases c with
        | skip => rw [arun] at h; intro X μ0 h0 w0 μ a w hF hT; exact wp_skip ⟨s, μ, ih _ _ h, hF, hT⟩
        | seq a b => rw [arun] at h; exact go_seq (ih _ _ h)
        | region id ops d =>
          rw [arun] at h
          cases d with
          | true => simp only [if_true] at h; simpa [ADis] using h
          | false => exact go_region (ih _ _ (by simpa using h))
        | cond c x y =>
          rw [arun] at h
          unfold acond at h
          split at h
          · rename_i b hc
            cases b with
            | true => rw [abr] at h; exact go_cond hc (ih _ _ h)
            | false => rw [abr] at h; exact go_cond hc (ih _ _ h)
          · exact h.elim
        | block id c => rw [arun] at h; exact go_block (ih _ _ h)
        | loop c => rw [arun] at h; exact h
        | exit id =>
          rw [arun] at h
          cases he : exitK id k with
          | none => rw [he] at h; exact h.elim
          | some k' =>
            rw [he] at h
            intro X μ0 h0 w0 μ a w hF hT
            exact wp_exit ⟨s, μ, AGo_exit k he (ih _ _ h), hF, hT⟩
        | ret => rw [arun] at h; intro X μ0 h0 w0 μ a w hF hT; exact wp_ret ⟨s, μ, AGo_ret h k, hF, hT⟩
        | rangeFunc f p a b => rw [arun] at h; exact h.elim; all_goals simp
        | scope b => rw [arun] at h; exact h.elim; all_goals simp
        | label b => rw [arun] at h; exact h.elim; all_goals simp
        | goto b => rw [arun] at h; exact h.elim; all_goals simp
        | refuse b => rw [arun] at h; exact h.elim; all_goals simp

/-! ### loops -/
def ASt.gets (t : List (Nat × AV)) : List Nat → Option (List AV)
  | [] => some []
  | x :: l => match look x t, ASt.gets t l with | some v, some vs => some (v :: vs) | _, _ => none
def zipT : List Nat → List AV → List (Nat × AV)
  | x :: l, v :: vs => (x, v) :: zipT l vs
  | _, _ => []

theorem zip_look {t : List (Nat × AV)} {L μ : List Nat} {w : World} {tm : Array Value} (ht : ∀ (x : Nat) (v : AV), look x t = some v → AV.rep L μ w v (tm.getD x undef)) : ∀ {l : List Nat} {vs : List AV}, ASt.gets t l = some vs → ∀ (x : Nat) (v : AV), look x (zipT l vs) = some v → AV.rep L μ w v (tm.getD x undef)
  | [], vs, h, x, v, hl => by simp only [ASt.gets, Option.some.injEq] at h; subst h; simp [zipT, look] at hl
  | y :: l, vs, h, x, v, hl => by
    simp only [ASt.gets] at h
    split at h
    · rename_i v1 vs1 h1 h2
      cases h
      simp only [zipT, look] at hl
      split at hl
      · rename_i e; subst e; cases hl; exact ht _ _ h1
      · exact zip_look ht h2 x v hl
    · cases h

theorem wp_loop_rel {Q : Exit → Act → World → Prop} {a : Act} {w : World} {c : Code} (I : Nat → Act → World → Prop) (h0 : ∃ n, I n a w) (round : ∀ n a w, I n a w → c.wp P (Exit.then (fun a' w' => ∃ n', n' < n ∧ I n' a' w') Q) a w) : (Code.loop c).wp P Q a w := by
  intro b k cs
  have key : ∀ n a w, I n a w →
      ∃ e a' w', Q e a' w' ∧ Arrives P (lone (b.at a (.code c :: .inLoop c :: k)) cs w) b k cs e a' w' := by
    intro n
    induction n using Nat.strongRecOn with
    | _ n ih =>
      intro a w hI
      obtain ⟨e, a1, w1, hq, harr⟩ := round n a w hI b (.inLoop c :: k) cs
      cases e with
      | normal =>
        obtain ⟨n', hlt, hI1⟩ := hq
        obtain ⟨e2, a2, w2, hq2, harr2⟩ := ih n' hlt a1 w1 hI1
        exact ⟨e2, a2, w2, hq2, .of_steps (Steps.trans harr (.one step_inLoop)) harr2⟩
      | exit id => exact ⟨_, a1, w1, hq, .pass (x := .inLoop c) rfl (fun _ _ => .inl (by simp)) harr⟩
      | goto l => exact ⟨_, a1, w1, hq, .pass (x := .inLoop c) rfl (fun _ _ => .inl (by simp)) harr⟩
      | ret => exact ⟨_, a1, w1, hq, .pass (x := .inLoop c) rfl (fun _ _ => .inl (by simp)) harr⟩
      | panic ch => exact ⟨_, a1, w1, hq, .pass (x := .inLoop c) rfl (fun _ _ => .inl (by simp)) harr⟩
      | outgrown => exact ⟨_, a1, w1, hq, .pass (x := .inLoop c) rfl (fun _ _ => .inl (by simp)) harr⟩
  obtain ⟨n, hn⟩ := h0
  obtain ⟨e, a', w', hq, harr⟩ := key n a w hn
  exact ⟨e, a', w', hq, .of_steps (.one step_loop) harr⟩

theorem StpN.prep {μ0 : List Nat} {h0 : List Blk} {w0 w : World} {X μ : List Nat} {h : List Blk} {ks : List Nat} {vs' : List AV} {us : List Value} {K h1 : List Blk} (hT : StpN N μ0 h0 w0 μ h w) (hH : Handed X μ h w (List.range N ++ ks) vs' us K h1) : StpN N μ0 h0 w0 (mapK μ (List.range N ++ ks)) K w := by
  refine ⟨hT.keep, fun b g hb e => mapK_get (b := b) (by rw [List.getElem?_append_left (by simpa using hb), List.getElem?_range hb]) (hT.map b g hb e), fun g hg hl => ?_⟩
  obtain ⟨i, q, e1, e2, e3⟩ := mem_alive.1 hg
  have hil : i < (List.range N ++ ks).length := by have := (List.getElem?_eq_some_iff.1 e1).1; simpa [mapK] using this
  obtain ⟨k, k', f1, f3, f4⟩ := hH.blk i _ (List.getElem?_eq_getElem hil)
  rw [f3] at e2; cases e2
  obtain ⟨g', hg', _⟩ := hH.sim.get f1
  have := mapK_get (List.getElem?_eq_getElem hil) hg'
  rw [e1] at this; cases this
  have : g ∈ alive μ h1 := mem_alive.2 ⟨_, k, hg', f1, by rw [← f4]; exact e3⟩
  exact hT.old g (hH.stp.old g this (Nat.lt_of_lt_of_le hl hT.keep.size)) hl

theorem Handed.apart {X μ : List Nat} {h : List Blk} {w : World} {ks : List Nat} {vs' : List AV} {us : List Value} {K h1 : List Blk} (hH : Handed X μ h w ks vs' us K h1) : ∀ (m g : Nat) (k : Blk), (mapK μ ks)[m]? = some g → K[m]? = some k → k.st.known = true → g ∉ X := fun i g q hi hq hk => by
  have hil : i < ks.length := by have := (List.getElem?_eq_some_iff.1 hi).1; simpa [mapK] using this
  obtain ⟨k, k', f1, f3, f4⟩ := hH.blk i _ (List.getElem?_eq_getElem hil)
  rw [hq] at f3; cases f3
  obtain ⟨g', hg', _⟩ := hH.sim.get f1
  have := mapK_get (List.getElem?_eq_getElem hil) hg'
  rw [hi] at this; cases this
  exact hH.sim.out _ k g f1 (by rw [← f4]; exact hk) hg'
theorem Handed.free {X μ : List Nat} {h : List Blk} {w : World} {ks : List Nat} {vs' : List AV} {us : List Value} {K h1 : List Blk} (hH : Handed X μ h w ks vs' us K h1) : Sim X (mapK μ ks) K w ∧ AV.repl (X ++ alive (mapK μ ks) K) (mapK μ ks) w vs' us := by
  exact hH.out X (fun x hx => List.mem_append.2 (.inl hx)) hH.apart

theorem gets_repl {t : List (Nat × AV)} {L μ : List Nat} {w : World} {tm : Array Value} (ht : ∀ (x : Nat) (v : AV), look x t = some v → AV.rep L μ w v (tm.getD x undef)) : ∀ {l : List Nat} {vs : List AV}, ASt.gets t l = some vs → AV.repl L μ w vs (l.map fun x => tm.getD x undef)
  | [], vs, h => by simp only [ASt.gets, Option.some.injEq] at h; subst h; simp [AV.repl]
  | x :: l, vs, h => by
    simp only [ASt.gets] at h
    split at h
    · rename_i v1 vs1 h1 h2
      cases h
      simp only [List.map_cons, AV.repl]
      exact ⟨_, _, rfl, ht x v1 h1, gets_repl ht h2⟩
    · cases h
theorem repl_zip {L μ : List Nat} {w : World} {tm : Array Value} : ∀ {l : List Nat} {vs : List AV}, AV.repl L μ w vs (l.map fun x => tm.getD x undef) → ∀ (x : Nat) (v : AV), look x (zipT l vs) = some v → AV.rep L μ w v (tm.getD x undef)
  | [], vs, h, x, v, hl => by cases vs <;> simp [zipT, look] at hl
  | y :: l, [], h, x, v, hl => by simp [zipT, look] at hl
  | y :: l, v1 :: vs, h, x, v, hl => by
    simp only [List.map_cons, AV.repl] at h
    obtain ⟨u, us', e, h1, h2⟩ := h
    cases e
    simp only [zipT, look] at hl
    split at hl
    · rename_i e; subst e; cases hl; exact h1
    · exact repl_zip h2 x v hl

/-- the state, brought down to these slots and these own blocks (beside the first N) -/
def AHead (N : Nat) (l : List Nat) (I : List AV → List Blk → Prop) (s : ASt) : Prop :=
  (∃ ks, match ASt.gets s.t l with
    | some vs => (match prep false s.h (List.range N ++ ks) vs with
      | some (vs', K, _) => I vs' K
      | none => False)
    | none => False) ∨ ∃ vs, ASt.gets s.t l = some vs ∧ I vs s.h

theorem head_sound {X μ0 : List Nat} {h0 : List Blk} {w0 : World} {μ : List Nat} {s : ASt} {a : Act} {w : World} {l : List Nat} {I : List AV → List Blk → Prop} (hF : SimF X μ s a w) (hT : StpN N μ0 h0 w0 μ s.h w) (h : AHead N l I s) :
    ∃ μ' vs K, I vs K ∧ SimF X μ' ⟨s.n, zipT l vs, K⟩ a w ∧ StpN N μ0 h0 w0 μ' K w := by
  rcases h with ⟨ks, h⟩ | ⟨vs, hvs, h⟩
  case inr => exact ⟨μ, vs, s.h, h, ⟨hF.size, hF.ds, hF.sim, zip_look hF.reg hvs⟩, hT⟩
  split at h
  · rename_i vs hvs
    split at h
    · rename_i vs' K h1 hp
      have hH := prep_sound hF.sim hp (gets_repl hF.reg hvs)
      obtain ⟨s1, s2⟩ := hH.free
      exact ⟨_, vs', K, h, ⟨hF.size, hF.ds, s1, repl_zip s2⟩, hT.prep hH⟩
    · exact h.elim
  · exact h.elim

/-- what holds of these slots and of the own blocks at each round's head -/
theorem go_loop {c : Code} {s : ASt} {k : List Item} (l : List Nat) (I : List AV → List Blk → Prop) (m : List AV → List Blk → Nat) (h0 : AHead N l I s)
    (hr : ∀ vs h, I vs h → AGo P N R (.code c :: .goal (fun s' => s'.n = s.n ∧ AHead N l (fun vs' h' => I vs' h' ∧ m vs' h' < m vs h) s') :: k) .normal ⟨s.n, zipT l vs, h⟩) : AGo P N R (.code (.loop c) :: k) .normal s := by
  intro X μ0 hh0 w0 μ a w hF hT
  refine wp_loop_rel (fun n a w => ∃ μ vs h, I vs h ∧ SimF X μ ⟨s.n, zipT l vs, h⟩ a w ∧ StpN N μ0 hh0 w0 μ h w ∧ m vs h = n) ?_ ?_
  · obtain ⟨μ', vs, K, q1, q2, q3⟩ := head_sound hF hT h0
    exact ⟨_, μ', vs, K, q1, q2, q3, rfl⟩
  · intro n a w ⟨μ, vs, h, hI, hF, hT, hm⟩
    refine Code.wp_mono ?_ (hr vs h hI X μ0 hh0 w0 μ a w hF hT)
    intro e a' w' ⟨s', μ', q1, q2, q3⟩
    cases e with
    | normal =>
      obtain ⟨hn, hh⟩ := q1
      obtain ⟨μ2, vs', K, ⟨hI', hlt⟩, r2, r3⟩ := head_sound q2 q3 hh
      exact ⟨_, by rw [← hm]; exact hlt, μ2, vs', K, hI', by rw [← hn]; exact r2, r3, rfl⟩
    | _ => exact ⟨s', μ', q1, q2, q3⟩

/-- a loop of at most so many rounds, round by round -/
def ALoop (P : Program) (N : Nat) (R : ASt → Prop) (c : Code) (k : List Item) : Nat → ASt → Prop
  | 0, _ => False
  | n + 1, s => AGo P N R (.code c :: .goal (ALoop P N R c k n) :: k) .normal s
theorem go_rounds {c : Code} {s : ASt} {k : List Item} (n : Nat) (h : ALoop P N R c k n s) : AGo P N R (.code (.loop c) :: k) .normal s := by
  intro X μ0 hh0 w0 μ a w hF hT
  refine wp_loop_rel (fun n a w => ∃ μ s, ALoop P N R c k n s ∧ SimF X μ s a w ∧ StpN N μ0 hh0 w0 μ s.h w) ⟨n, μ, s, h, hF, hT⟩ ?_
  intro n a w ⟨μ, s, hL, hF, hT⟩
  cases n with
  | zero => exact hL.elim
  | succ n =>
    refine Code.wp_mono ?_ (hL X μ0 hh0 w0 μ a w hF hT)
    intro e a' w' ⟨s', μ', q1, q2, q3⟩
    cases e with
    | normal => exact ⟨n, Nat.lt_succ_self n, μ', s', q1, q2, q3⟩
    | _ => exact ⟨s', μ', q1, q2, q3⟩

/-! ### a function as a whole -/
def slots : Nat → List AV → List (Nat × AV)
  | _, [] => []
  | i, v :: vs => (i, v) :: slots (i + 1) vs
def ares' (P : Program) (s : ASt) : List ResultVar → Option (List AV)
  | [] => some []
  | .tmp t :: l => match look t s.t, ares' P s l with | some v, some vs => some (v :: vs) | _, _ => none
  | .cell t ty :: l => match look t s.t, ares' P s l with
    | some (.one p), some vs => match aload P s.h ty p with | some v => some (v :: vs) | none => none
    | _, _ => none
def aresult (P : Program) (s : ASt) (rs : List ResultVar) : Option AV := match ares' P s rs with
  | some [v] => some v
  | some vs => some (.tup vs)
  | none => none

theorem slots_look {L μ : List Nat} {w : World} : ∀ {vs : List AV} {us : List Value}, AV.repl L μ w vs us → ∀ (i x : Nat) (v : AV), look x (slots i vs) = some v → i ≤ x ∧ ∃ u, us[x - i]? = some u ∧ AV.rep L μ w v u
  | [], us, h, i, x, v, hl => by simp [slots, look] at hl
  | v0 :: vs, us, h, i, x, v, hl => by
    simp only [AV.repl] at h
    obtain ⟨u, us', rfl, h1, h2⟩ := h
    simp only [slots, look] at hl
    split at hl
    · rename_i e; subst e; cases hl; exact ⟨Nat.le_refl _, u, by simp, h1⟩
    · obtain ⟨q1, u', q2, q3⟩ := slots_look h2 (i + 1) x v hl
      refine ⟨by omega, u', ?_, q3⟩
      rw [show x - i = (x - (i + 1)) + 1 from by omega, List.getElem?_cons_succ]; exact q2

theorem AV.repl_length {L μ : List Nat} {w : World} : ∀ {vs : List AV} {us : List Value}, AV.repl L μ w vs us → us.length = vs.length
  | [], us, h => by simp only [AV.repl] at h; simp [h]
  | v :: vs, us, h => by
    simp only [AV.repl] at h
    obtain ⟨u, us', rfl, _, h3⟩ := h
    simp [AV.repl_length h3]

def resF (tm : Array Value) : ResultVar → Sem Value
  | .tmp t => pure (tm.getD t undef)
  | .cell a t => do loadVar t (← asAddr (tm.getD a undef))

theorem ares_sound {X μ : List Nat} {s : ASt} {a : Act} {w : World} (hF : SimF X μ s a w) : ∀ {rs : List ResultVar} {vs : List AV}, ares' P s rs = some vs → ∃ us : List Value, AV.repl (X ++ alive μ s.h) μ w vs us ∧ (rs.mapM (resF a.tmps)).run P w = .ok us w
  | [], vs, h => by
    simp only [ares', Option.some.injEq] at h
    subst h
    exact ⟨[], by simp [AV.repl], by simp⟩
  | .tmp t :: rs, vs, h => by
    simp only [ares'] at h
    split at h
    · rename_i v vs' h1 h2
      cases h
      obtain ⟨us, q1, q2⟩ := ares_sound hF h2
      exact ⟨_ :: us, by simp only [AV.repl]; exact ⟨_, _, rfl, hF.reg t v h1, q1⟩, by simp [List.mapM_cons, q2, resF]⟩
    · cases h
  | .cell t ty :: rs, vs, h => by
    simp only [ares'] at h
    split at h
    · rename_i p vs' h1 h2
      split at h
      · rename_i v hv
        cases h
        obtain ⟨us, q1, q2⟩ := ares_sound hF h2
        obtain ⟨g, u, _, _, h3, h4⟩ := op_load (P := P) (o := { dst := none, op := .load ty (.tmp t), type := 0, pos := "", after := #[], guard := none }) (x := .tmp t) (t := ty) rfl hF h1 hv
        have h5 := h3 w rfl
        have hp := hF.reg t _ h1
        simp only [AV.rep] at hp
        have h6 : (resF a.tmps (.cell t ty)).run P w = .ok u w := by
          have hsh : ∃ ad, a.tmps.getD t undef = .pointer (some ad) := by
            unfold aload at hv
            split at hv
            · rename_i ti cs hti hcs
              obtain ⟨g, off, he, _⟩ := acells_spec hF.sim hcs hp
              exact ⟨_, he⟩
            · cases hv
          obtain ⟨ad, had⟩ := hsh
          have e : a.eval (.tmp t) = .pointer (some ad) := had
          simp only [execOp, Sem.run_bind, e, Instr.loadAt, Instr.sureAddr, Sem.run_pure, Result.andThen_ok] at h5
          simp only [resF, had, asAddr, Sem.run_bind, Sem.run_pure, Result.andThen_ok]
          cases hq : (loadVar ty ad).run P w with
          | ok x w1 => rw [hq] at h5; simp at h5; rw [h5.1, h5.2]
          | halt x w1 => rw [hq] at h5; simp at h5
        exact ⟨u :: us, by simp only [AV.repl]; exact ⟨_, _, rfl, h4, q1⟩, by simp [List.mapM_cons, q2, h6]⟩
      · cases h
    · cases h

theorem aresult_sound {X μ : List Nat} {s : ASt} {a : Act} {w : World} (hF : SimF X μ s a w) {fn : Func} {v : AV} (h : aresult P s fn.results.toList = some v) : ∃ u, AV.rep (X ++ alive μ s.h) μ w v u ∧ (results fn a.tmps).run P w = .ok u w := by
  have key : ∀ vs, ares' P s fn.results.toList = some vs → ∃ us : List Value, AV.repl (X ++ alive μ s.h) μ w vs us ∧ (results fn a.tmps).run P w = .ok (if h : us.toArray.size = 1 then us.toArray[0] else .tuple us.toArray) w := by
    intro vs hvs
    obtain ⟨us, q1, q2⟩ := ares_sound hF hvs
    refine ⟨us, q1, ?_⟩
    have hm : (fn.results.mapM (resF a.tmps)).run P w = .ok us.toArray w := by
      rw [Array.mapM_eq_mapM_toList]
      simp [q2]
    have hr : results fn a.tmps = (do let vs ← fn.results.mapM (resF a.tmps); pure (if h : vs.size = 1 then vs[0] else .tuple vs)) := rfl
    rw [hr]
    simp only [Sem.run_bind, hm, Result.andThen_ok, Sem.run_pure]
  unfold aresult at h
  split at h
  · rename_i v1 hv1
    cases h
    obtain ⟨us, q1, q2⟩ := key _ hv1
    simp only [AV.repl] at q1
    obtain ⟨u, us', rfl, r1, rfl⟩ := q1
    exact ⟨u, r1, by rw [q2]; simp⟩
  · rename_i vs hne hvs
    cases h
    obtain ⟨us, q1, q2⟩ := key _ hvs
    have hl := AV.repl_length q1
    have : ¬ us.toArray.size = 1 := fun e => by
      have e : us.length = 1 := by simpa using e
      rw [e] at hl
      match vs, hl with
      | [x], _ => exact hne x rfl
      | [], hl => simp at hl
      | _ :: _ :: _, hl => simp at hl
    refine ⟨.tuple us.toArray, by simp only [AV.rep]; exact ⟨_, rfl, by simpa using q1⟩, by rw [q2, dif_neg this]⟩
  · cases h

/-- what is asked at the end: ks the own blocks that are handed back beside those that came in -/
def ARet (P : Program) (rs : List ResultVar) (n : Nat) (K : AV → List Blk → Prop) (s : ASt) : Prop :=
  (∃ ks z, match aresult P s rs with
    | some r => (match prep z s.h (List.range n ++ ks) [r] with
      | some ([r'], H', _) => K r' H'
      | _ => False)
    | none => False) ∨ ∃ r, aresult P s rs = some r ∧ K r s.h

/-- A function's contract, from a run of its body. -/
theorem acall_of {f : FuncId} {fn : Func} {c : Code} {args : List AV} {H : List Blk} {K : AV → List Blk → Prop} (hf : P.funcs[f]? = some fn) (hb : fn.body = some c) (hfn : IsFn P f) (hn : args.length ≤ fn.ntmps)
    (h : AGo P H.length (ARet P fn.results.toList H.length K) [.code c] .normal ⟨fn.ntmps, slots 0 args, H⟩) : ACall P f args H K := by
  refine ⟨hfn, fun X μ w vs hS hr => calls_of_wp hf hb ?_⟩
  have hvl : vs.size = args.length := by have := AV.repl_length hr; simpa using this
  have hF : SimF X μ ⟨fn.ntmps, slots 0 args, H⟩ { tmps := vs ++ Array.replicate (fn.ntmps - vs.size) undef, defers := [] } w := by
    refine ⟨by simp; omega, rfl, hS, fun t v hl => ?_⟩
    obtain ⟨_, u, h1, h2⟩ := slots_look hr 0 t v hl
    have h1' : vs[t]? = some u := by simpa using h1
    have hlt := (Array.getElem?_eq_some_iff.1 h1').1
    rw [Array.getD_eq_getD_getElem?, Array.getElem?_append_left hlt, h1']
    exact h2
  refine Code.wp_mono ?_ (h X μ H w μ _ w hF (StpN.refl _ _ _ _))
  intro e a' w' ⟨s', μ', q1, q2, q3⟩
  have fin : (∃ ks z, ∃ r r' H' h1, aresult P s' fn.results.toList = some r ∧ prep z s'.h (List.range H.length ++ ks) [r] = some ([r'], H', h1) ∧ K r' H') → bodyPost P fn (fun e w' => ∃ r H' μ' v, e = .returned v ∧ K r H' ∧ Sim X μ' H' w' ∧ Stp μ H w μ' H' w' ∧ AV.rep (X ++ alive μ' H') μ' w' r v) .normal a' w' := by
    rintro ⟨ks, z, r, r', H', h1, hres, hp, hK⟩
    obtain ⟨u, hu, hrun⟩ := aresult_sound q2 hres
    refine ⟨q2.ds, u, hrun, r', H', mapK μ' (List.range H.length ++ ks), u, rfl, hK, ?_⟩
    have hH := prep_sound q2.sim hp (us := [u]) (by simp only [AV.repl]; exact ⟨u, [], rfl, hu, rfl⟩)
    obtain ⟨s1, s2⟩ := hH.free
    simp only [AV.repl] at s2
    obtain ⟨u', _, e1, s2, _⟩ := s2
    cases e1
    refine ⟨s1, ⟨q3.keep, fun b g hb => ?_, fun g hg hlt => ?_⟩, s2⟩
    · have hbl : b < H.length := by rw [← hS.len]; exact (List.getElem?_eq_some_iff.1 hb).1
      exact mapK_get (b := b) (by rw [List.getElem?_append_left (by simpa using hbl), List.getElem?_range hbl]) (q3.map b g hbl hb)
    · obtain ⟨i, q, e1, e2, e3⟩ := mem_alive.1 hg
      have hil : i < (List.range H.length ++ ks).length := by have := (List.getElem?_eq_some_iff.1 e1).1; simpa [mapK] using this
      obtain ⟨k, k', f1, f3, f4⟩ := hH.blk i _ (List.getElem?_eq_getElem hil)
      rw [f3] at e2; cases e2
      obtain ⟨g', hg', _⟩ := hH.sim.get f1
      have := mapK_get (List.getElem?_eq_getElem hil) hg'
      rw [e1] at this; cases this
      have : g ∈ alive μ' h1 := mem_alive.2 ⟨_, k, hg', f1, by rw [← f4]; exact e3⟩
      exact q3.old g (hH.stp.old g this (Nat.lt_of_lt_of_le hlt q3.keep.size)) hlt
  have conv : ARet P fn.results.toList H.length K s' → bodyPost P fn (fun e w' => ∃ r H' μ' v, e = .returned v ∧ K r H' ∧ Sim X μ' H' w' ∧ Stp μ H w μ' H' w' ∧ AV.rep (X ++ alive μ' H') μ' w' r v) .normal a' w' := by
    rintro (⟨ks, z, hq⟩ | ⟨r, hr, hK⟩)
    · split at hq
      · rename_i r hr
        split at hq
        · rename_i r' H' h1 hp
          exact fin ⟨ks, z, r, r', H', h1, hr, hp, hq⟩
        · exact hq.elim
      · exact hq.elim
    · obtain ⟨u, hu, hrun⟩ := aresult_sound q2 hr
      exact ⟨q2.ds, u, hrun, r, s'.h, μ', u, rfl, hK, q2.sim, ⟨q3.keep, fun b g hb => q3.map b g (by rw [← hS.len]; exact (List.getElem?_eq_some_iff.1 hb).1) hb, q3.old⟩, hu⟩
  cases e with
  | normal => exact conv q1
  | ret => exact conv q1
  | _ => exact q1.elim
end
end Go.Proofs.Sh
