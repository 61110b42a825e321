/- Texts of the proof, one behind another. -/
import Derived.Test.YtkkijdlgmlffoaaKW3
set_option linter.unusedSimpArgs false
set_option linter.unusedVariables false
/- What is handed over at a call, and what comes back. -/
namespace Go.Proofs.Sh
open Go.RowKit

/-- cells that name none of the own blocks -/
def C.tree : C → Bool
  | .top => true
  | .sc (.slice none 0 0) => false
  | .sc _ => true
  | .sl _ => true
  | _ => false
def treeL (cs : List C) : Bool := cs.all C.tree
def treeRows (rows : List (List C)) : Bool := rows.all treeL

def fzL (f : C → Option (C × List Nat)) : List C → Option (List C × List Nat)
  | [] => some ([], [])
  | c :: cs => match f c, fzL f cs with
    | some (c', i), some (cs', j) => some (c' :: cs', i ++ j)
    | _, _ => none
def fzRows (f : C → Option (C × List Nat)) : List (List C) → Option (List (List C) × List Nat)
  | [] => some ([], [])
  | r :: rows => match fzL f r, fzRows f rows with
    | some (r', i), some (rows', j) => some (r' :: rows', i ++ j)
    | _, _ => none
/-- a cell as a tree, and the own blocks that may then be written no more -/
def fz (h : List Blk) : Nat → C → Option (C × List Nat)
  | _, .top => some (.top, [])
  | _, .sc (.slice none 0 0) => some (.sl [], [])
  | _, .sc v => some (.sc v, [])
  | _, .sl rows => some (.sl rows, [])
  | d + 1, .row _ b n => match h[b]? with
    | some k => if k.st.known = true ∧ k.rows.length = n then
        (if treeRows k.rows then some (.sl k.rows, [b]) else match fzRows (fz h d) k.rows with
          | some (rows, ids) => some (.sl rows, b :: ids)
          | none => none)
      else none
    | none => none
  | _, _ => none

theorem C.rep_tree {L μ : List Nat} {w : World} {c : C} {u : Value} (ht : c.tree = true) (h : C.rep L μ w c u) : C.rep L [] w c u := by
  cases c <;> first | (simp [C.tree] at ht; done) | (simp only [C.rep] at h ⊢; exact h)
theorem C.repl_tree {L μ : List Nat} {w : World} : ∀ {cs : List C} {us : List Value}, treeL cs = true → C.repl L μ w cs us → C.repl L [] w cs us
  | [], us, _, h => by simpa [C.repl] using h
  | c :: cs, us, ht, h => by
    simp only [treeL, List.all_cons, Bool.and_eq_true] at ht
    simp only [C.repl] at h ⊢
    obtain ⟨u, us', h1, h2, h3⟩ := h
    exact ⟨u, us', h1, C.rep_tree ht.1 h2, C.repl_tree ht.2 h3⟩

theorem fzL_get {f : C → Option (C × List Nat)} : ∀ {cs cs' : List C} {ids : List Nat}, fzL f cs = some (cs', ids) → cs'.length = cs.length ∧ ∀ (j : Nat) (c' : C), cs'[j]? = some c' → ∃ c i, cs[j]? = some c ∧ f c = some (c', i) ∧ ∀ b ∈ i, b ∈ ids
  | [], cs', ids, h => by
    simp only [fzL, Option.some.injEq, Prod.mk.injEq] at h
    obtain ⟨rfl, rfl⟩ := h
    simp
  | c :: cs, cs', ids, h => by
    simp only [fzL] at h
    split at h
    · rename_i c1 i cs1 j h1 h2
      simp only [Option.some.injEq, Prod.mk.injEq] at h
      obtain ⟨rfl, rfl⟩ := h
      obtain ⟨q1, q2⟩ := fzL_get h2
      refine ⟨by simp [q1], fun m c' hm => ?_⟩
      cases m with
      | zero => simp at hm; subst hm; exact ⟨c, i, rfl, h1, fun b hb => by simp [hb]⟩
      | succ m =>
        obtain ⟨c2, i2, e1, e2, e3⟩ := q2 m c' (by simpa using hm)
        exact ⟨c2, i2, by simpa using e1, e2, fun b hb => by simp [e3 b hb]⟩
    · cases h
theorem fzRows_get {f : C → Option (C × List Nat)} : ∀ {rows rows' : List (List C)} {ids : List Nat}, fzRows f rows = some (rows', ids) → rows'.length = rows.length ∧ ∀ (j : Nat) (r' : List C), rows'[j]? = some r' → ∃ r i, rows[j]? = some r ∧ fzL f r = some (r', i) ∧ ∀ b ∈ i, b ∈ ids
  | [], cs', ids, h => by
    simp only [fzRows, Option.some.injEq, Prod.mk.injEq] at h
    obtain ⟨rfl, rfl⟩ := h
    simp
  | c :: cs, cs', ids, h => by
    simp only [fzRows] at h
    split at h
    · rename_i c1 i cs1 j h1 h2
      simp only [Option.some.injEq, Prod.mk.injEq] at h
      obtain ⟨rfl, rfl⟩ := h
      obtain ⟨q1, q2⟩ := fzRows_get h2
      refine ⟨by simp [q1], fun m c' hm => ?_⟩
      cases m with
      | zero => simp at hm; subst hm; exact ⟨c, i, rfl, h1, fun b hb => by simp [hb]⟩
      | succ m =>
        obtain ⟨c2, i2, e1, e2, e3⟩ := q2 m c' (by simpa using hm)
        exact ⟨c2, i2, by simpa using e1, e2, fun b hb => by simp [e3 b hb]⟩
    · cases h

section
variable {X μ : List Nat} {h : List Blk} {w : World}

/-- rows of an own block as rows of trees -/
theorem Laid.trees {L L' : List Nat} {cur : Array Value} {s g : Nat} {ty : TypeId} {rows rows' : List (List C)} (hl : Laid L μ w cur s rows) (hg : w.heap[g]? = some (.cells cur ty (0, 0)))
    (hlen : rows'.length = rows.length) (hr : ∀ (i : Nat) (r' : List C), rows'[i]? = some r' → ∃ r, rows[i]? = some r ∧ r'.length = r.length ∧ ∀ (j : Nat) (c' : C), r'[j]? = some c' → ∃ c, r[j]? = some c ∧ ∀ u, C.rep L μ w c u → C.rep L' [] w c' u) : Laid L' [] w cur s rows' := by
  intro i r' hi
  obtain ⟨r, h1, h2, h3⟩ := hr i r' hi
  obtain ⟨q1, q2⟩ := hl i r h1
  refine ⟨by rw [h2, q1], fun j c' hj => ?_⟩
  obtain ⟨c, e1, e2⟩ := h3 j c' hj
  obtain ⟨u, hu, hv⟩ := q2 j c e1
  exact ⟨u, hu, e2 u hv⟩

theorem C.rep.sub {L L' μ : List Nat} {w : World} {c : C} {u : Value} (hs : ∀ x, x ∈ L' → x ∈ L) (h : C.rep L μ w c u) : C.rep L' μ w c u :=
  C.rep.carry (K := []) ⟨Keep.refl _ _, fun _ _ _ => by simp, fun x _ hx hm => hx (hs x hm), fun _ _ h => h⟩ h

theorem fz_sound (hS : Sim X μ h w) {L' : List Nat} (hL : ∀ x, x ∈ L' → x ∈ X ++ alive μ h) : ∀ (d : Nat) (c c' : C) (ids : List Nat) (u : Value), fz h d c = some (c', ids) → (∀ b ∈ ids, ∀ g, μ[b]? = some g → g ∉ L') → C.rep (X ++ alive μ h) μ w c u → C.rep L' [] w c' u := by
  intro d
  induction d with
  | zero =>
    intro c c' ids u hf hids hr
    unfold fz at hf
    split at hf <;> (try (cases hf; done))
    · injection hf with hf; simp only [Prod.mk.injEq] at hf; obtain ⟨rfl, rfl⟩ := hf; simpa [C.rep] using hr
    · injection hf with hf; simp only [Prod.mk.injEq] at hf; obtain ⟨rfl, rfl⟩ := hf
      simp only [C.rep] at hr ⊢; exact ⟨none, 0, by simpa using hr.1, by simp, by simp [maxLen], .inl trivial⟩
    · injection hf with hf; simp only [Prod.mk.injEq] at hf; obtain ⟨rfl, rfl⟩ := hf; simpa [C.rep] using hr
    · injection hf with hf; simp only [Prod.mk.injEq] at hf; obtain ⟨rfl, rfl⟩ := hf
      have := C.rep.sub hL hr
      simp only [C.rep] at this ⊢; exact this
    · rename_i hd; cases hd
  | succ d ih =>
    intro c c' ids u hf hids hr
    unfold fz at hf
    split at hf <;> (try (cases hf; done))
    · injection hf with hf; simp only [Prod.mk.injEq] at hf; obtain ⟨rfl, rfl⟩ := hf; simpa [C.rep] using hr
    · injection hf with hf; simp only [Prod.mk.injEq] at hf; obtain ⟨rfl, rfl⟩ := hf
      simp only [C.rep] at hr ⊢; exact ⟨none, 0, by simpa using hr.1, by simp, by simp [maxLen], .inl trivial⟩
    · injection hf with hf; simp only [Prod.mk.injEq] at hf; obtain ⟨rfl, rfl⟩ := hf; simpa [C.rep] using hr
    · injection hf with hf; simp only [Prod.mk.injEq] at hf; obtain ⟨rfl, rfl⟩ := hf
      have := C.rep.sub hL hr
      simp only [C.rep] at this ⊢; exact this
    · rename_i d' sx b n hd
      obtain rfl : d = d' := by omega
      split at hf
      · rename_i k hb
        split at hf
        · rename_i hk
          simp only [C.rep] at hr
          obtain ⟨g, cap, hg, rfl, hnc, hcm, _⟩ := hr
          obtain ⟨cur, hc, hl⟩ := hS.blk b k g hb hk.1 hg
          have hglt := hS.lt g (List.mem_of_getElem? hg)
          have fin : ∀ (rows' : List (List C)), rows'.length = k.rows.length → Laid L' [] w cur k.s rows' → g ∉ L' → C.rep L' [] w (.sl rows') (.slice (some ⟨g, 0, none⟩) n cap) := by
            intro rows' hlen hl' hgL
            simp only [C.rep]
            have : rows'.length = n := by rw [hlen, hk.2]
            exact ⟨_, cap, by rw [this], by omega, hcm, .inr ⟨g, 0, k.s, rfl, hglt, hgL, hl'.repss hc⟩⟩
          split at hf
          · rename_i ht
            injection hf with hf; simp only [Prod.mk.injEq] at hf; obtain ⟨rfl, rfl⟩ := hf
            refine fin k.rows rfl (hl.trees hc rfl fun i r' hi => ⟨r', hi, rfl, fun j c' hj => ⟨c', hj, fun u hu => ?_⟩⟩) (hids b (by simp) g hg)
            have h1 := List.all_eq_true.1 ht r' (List.mem_of_getElem? hi)
            have h2 := List.all_eq_true.1 h1 c' (List.mem_of_getElem? hj)
            exact C.rep_tree h2 (C.rep.sub hL hu)
          · split at hf
            · rename_i rows' ids' hfr
              injection hf with hf; simp only [Prod.mk.injEq] at hf; obtain ⟨rfl, rfl⟩ := hf
              obtain ⟨e1, e2⟩ := fzRows_get hfr
              refine fin rows' e1 (hl.trees hc e1 fun i r' hi => ?_) (hids b (by simp) g hg)
              obtain ⟨r, i1, q1, q2, q3⟩ := e2 i r' hi
              obtain ⟨q4, q5⟩ := fzL_get q2
              refine ⟨r, q1, q4, fun j c' hj => ?_⟩
              obtain ⟨c, i2, p1, p2, p3⟩ := q5 j c' hj
              exact ⟨c, p1, fun u hu => ih c c' i2 u p2 (fun b hb => hids b (by simp [q3 b (p3 b hb)])) hu⟩
            · cases hf
        · cases hf
      · cases hf
end

/-! ### freezing -/
def Blk.frz (k : Blk) : Blk := ⟨k.s, k.ty, .frz, k.rows⟩
def frzAt : List Nat → List Blk → List Blk
  | [], h => h
  | b :: ids, h => frzAt ids (match h[b]? with | some k => h.set b k.frz | none => h)

theorem Sim.frz {X μ : List Nat} {H : List Blk} {w : World} {b : Nat} {k : Blk} (h : Sim X μ H w) (hb : H[b]? = some k) (hk : k.st.known = true) : Sim X μ (H.set b k.frz) w ∧ Stp μ H w μ (H.set b k.frz) w := by
  have hmem : ∀ x, x ∈ alive μ (H.set b k.frz) → x ∈ alive μ H := fun x hx => by
    obtain ⟨i, q, h1, h2, h3⟩ := mem_alive.1 hx
    rcases (set_get hb).1 h2 with ⟨rfl, rfl⟩ | ⟨_, h2⟩
    · cases h3
    · exact mem_alive.2 ⟨i, q, h1, h2, h3⟩
  have hS : Stp μ H w μ (H.set b k.frz) w := ⟨Keep.refl _ _, fun _ _ e => e, fun x hx _ => hmem x hx⟩
  refine ⟨⟨by simp [h.len], h.lt, h.xlt, ?_, ?_, ?_⟩, hS⟩
  · intro i q g hi hq hg
    rcases (set_get hb).1 hi with ⟨rfl, rfl⟩ | ⟨_, hi⟩
    · exact h.out i k g hb hk hg
    · exact h.out i q g hi hq hg
  · intro i j q q' g hij hi hj hq hq' hgi hgj
    rcases (set_get hb).1 hi with ⟨rfl, rfl⟩ | ⟨_, hi2⟩
    · cases hq
    · rcases (set_get hb).1 hj with ⟨rfl, rfl⟩ | ⟨_, hj⟩
      · exact h.inj i j q k g hij hi2 hb hq hk hgi hgj
      · exact h.inj i j q q' g hij hi2 hj hq hq' hgi hgj
  · intro i q g hi hq hg
    rcases (set_get hb).1 hi with ⟨rfl, rfl⟩ | ⟨_, hi⟩
    · obtain ⟨c, h1, h2⟩ := h.blk i k g hb hk hg
      exact ⟨c, h1, h2.carry hS.carry⟩
    · obtain ⟨c, h1, h2⟩ := h.blk i q g hi hq hg
      exact ⟨c, h1, h2.carry hS.carry⟩

/-- the same block, but for how far it may be written -/
def Blk.le (k' k : Blk) : Prop := k'.s = k.s ∧ k'.ty = k.ty ∧ k'.rows = k.rows ∧ k'.st.known = k.st.known ∧ (k'.st.isMut = true → k.st.isMut = true)
theorem Blk.le_refl (k : Blk) : k.le k := ⟨rfl, rfl, rfl, rfl, id⟩
theorem Blk.le_trans {a b c : Blk} (h : a.le b) (k : b.le c) : a.le c := ⟨h.1.trans k.1, h.2.1.trans k.2.1, h.2.2.1.trans k.2.2.1, h.2.2.2.1.trans k.2.2.2.1, fun x => k.2.2.2.2 (h.2.2.2.2 x)⟩

theorem frzAt_spec {X μ : List Nat} {w : World} : ∀ (ids : List Nat) {H : List Blk}, Sim X μ H w → (∀ b ∈ ids, ∃ k, H[b]? = some k ∧ k.st.known = true) →
    Sim X μ (frzAt ids H) w ∧ Stp μ H w μ (frzAt ids H) w ∧ (frzAt ids H).length = H.length ∧ (∀ (i : Nat) (k : Blk), H[i]? = some k → ∃ k', (frzAt ids H)[i]? = some k' ∧ k'.le k ∧ (i ∈ ids → k'.st.isMut = false) ∧ (i ∉ ids → k' = k))
  | [], H, h, _ => ⟨h, Stp.refl _ _ _, rfl, fun i k hi => ⟨k, hi, Blk.le_refl k, by simp, fun _ => rfl⟩⟩
  | b :: ids, H, h, hk => by
    obtain ⟨k, hb, hkn⟩ := hk b (by simp)
    obtain ⟨h1, h2⟩ := h.frz hb hkn
    have hle : k.frz.le k := ⟨rfl, rfl, rfl, by rw [hkn]; rfl, fun e => by cases e⟩
    obtain ⟨q1, q2, q3, q4⟩ := frzAt_spec ids h1 (fun b' hb' => by
      obtain ⟨k', e1, e2⟩ := hk b' (by simp [hb'])
      by_cases e : b' = b
      · subst e; exact ⟨k.frz, (set_get hb).2 (.inl ⟨rfl, rfl⟩), rfl⟩
      · exact ⟨k', (set_get hb).2 (.inr ⟨e, e1⟩), e2⟩)
    simp only [frzAt, hb]
    refine ⟨q1, h2.trans q2, by rw [q3]; simp, fun i k0 hi => ?_⟩
    by_cases e : i = b
    · subst e
      rw [hb] at hi; cases hi
      obtain ⟨k', p1, p2, p3, p4⟩ := q4 i k.frz ((set_get hb).2 (.inl ⟨rfl, rfl⟩))
      refine ⟨k', p1, Blk.le_trans p2 hle, fun _ => ?_, fun hn => absurd (by simp) hn⟩
      cases hm : k'.st.isMut
      · rfl
      · have := p2.2.2.2.2 hm; cases this
    · obtain ⟨k', p1, p2, p3, p4⟩ := q4 i k0 ((set_get hb).2 (.inr ⟨e, hi⟩))
      exact ⟨k', p1, p2, fun hm => by
        rcases List.mem_cons.1 hm with hm | hm
        · exact absurd hm e
        · exact p3 hm, fun hn => p4 (fun hm => hn (by simp [hm]))⟩
end Go.Proofs.Sh
/- Handing over values and own blocks. -/
namespace Go.Proofs.Sh
open Go.RowKit

def pos (b : Nat) : List Nat → Option Nat
  | [] => none
  | x :: l => if x = b then some 0 else match pos b l with | some i => some (i + 1) | none => none
theorem pos_spec {b : Nat} : ∀ {l : List Nat} {i : Nat}, pos b l = some i → l[i]? = some b
  | [], i, h => by simp [pos] at h
  | x :: l, i, h => by
    simp only [pos] at h
    split at h
    · rename_i e; cases h; simp [e]
    · split at h
      · rename_i i' h'; cases h; simpa using pos_spec h'
      · cases h
mutual
def prC (z : Bool) (h : List Blk) (ks : List Nat) : C → Option (C × List Nat)
  | .ptr s b i j => match pos b ks with | some b' => some (.ptr s b' i j, []) | none => none
  | .row s b n => match pos b ks with | some b' => some (.row s b' n, []) | none => fz h 6 (.row s b n)
  | .fn f caps => match prCs z h ks caps with | some (cs, ids) => some (.fn f cs, ids) | none => none
  | .cur _ _ => none
  | .top => some (.top, [])
  | .sc v => match z with | true => fz h 6 (.sc v) | false => some (.sc v, [])
  | .sl rows => some (.sl rows, [])
def prCs (z : Bool) (h : List Blk) (ks : List Nat) : List C → Option (List C × List Nat)
  | [] => some ([], [])
  | c :: cs => match prC z h ks c, prCs z h ks cs with
    | some (c', i), some (cs', j) => some (c' :: cs', i ++ j)
    | _, _ => none
end
def prL (z : Bool) (h : List Blk) (ks : List Nat) (cs : List C) : Option (List C × List Nat) := if treeL cs then some (cs, []) else prCs z h ks cs
mutual
def prV (z : Bool) (h : List Blk) (ks : List Nat) : AV → Option (AV × List Nat)
  | .one c => match prC z h ks c with | some (c, ids) => some (.one c, ids) | none => none
  | .agg cs => match prL z h ks cs with | some (cs, ids) => some (.agg cs, ids) | none => none
  | .tup vs => match prVs z h ks vs with | some (vs, ids) => some (.tup vs, ids) | none => none
def prVs (z : Bool) (h : List Blk) (ks : List Nat) : List AV → Option (List AV × List Nat)
  | [] => some ([], [])
  | v :: vs => match prV z h ks v, prVs z h ks vs with
    | some (v', i), some (vs', j) => some (v' :: vs', i ++ j)
    | _, _ => none
end
def prRs (h : List Blk) (ks : List Nat) : List (List C) → Option (List (List C) × List Nat)
  | [] => some ([], [])
  | r :: rows => match prL false h ks r, prRs h ks rows with
    | some (r', i), some (rows', j) => some (r' :: rows', i ++ j)
    | _, _ => none
def prR (h : List Blk) (ks : List Nat) (rows : List (List C)) : Option (List (List C) × List Nat) := if treeRows rows then some (rows, []) else prRs h ks rows
def prH (h : List Blk) (all : List Nat) : List Nat → Option (List Blk × List Nat)
  | [] => some ([], [])
  | b :: ks => match h[b]? with
    | some k => if k.st.known = true then match prR h all k.rows, prH h all ks with
        | some (rows, i), some (K, j) => some (⟨k.s, k.ty, k.st, rows⟩ :: K, i ++ j)
        | _, _ => none
      else match prH h all ks with
        | some (K, j) => some (⟨k.s, k.ty, .dead, []⟩ :: K, j)
        | none => none
    | none => none
def apart (ids ks : List Nat) : Bool := ids.all (fun b => !ks.contains b)
def nodupB : List Nat → Bool
  | [] => true
  | x :: l => !l.contains x && nodupB l
/-- values and the own blocks ks as another's: the values, the blocks, and one's own blocks then -/
def prep (z : Bool) (h : List Blk) (ks : List Nat) (vs : List AV) : Option (List AV × List Blk × List Blk) :=
  match prVs z h ks vs, prH h ks ks with
  | some (vs', i), some (K, j) => if apart (i ++ j) ks = true ∧ nodupB ks = true then some (vs', K, frzAt (i ++ j) h) else none
  | _, _ => none

/-- .. at a call: all of them known -/
def prepC (h : List Blk) (ks : List Nat) (vs : List AV) : Option (List AV × List Blk × List Blk) :=
  match prep true h ks vs with
  | some (vs', H, h1) => if H.all (fun k => k.st.known) = true then some (vs', H, h1) else none
  | none => none
theorem prepC_some {h : List Blk} {ks : List Nat} {vs vs' : List AV} {H h1 : List Blk} (e : prepC h ks vs = some (vs', H, h1)) : prep true h ks vs = some (vs', H, h1) ∧ H.all (fun k => k.st.known) = true := by
  unfold prepC at e
  split at e
  · rename_i a b c hp
    split at e
    · rename_i hk
      simp only [Option.some.injEq, Prod.mk.injEq] at e
      obtain ⟨rfl, rfl, rfl⟩ := e
      exact ⟨hp, hk⟩
    · cases e
  · cases e
theorem prepC_nil {h : List Blk} {vs vs' : List AV} {h1 : List Blk} (e : prep true h [] vs = some (vs', [], h1)) : prepC h [] vs = some (vs', [], h1) := by
  unfold prepC; rw [e]; rfl

theorem nodupB_spec : ∀ {l : List Nat}, nodupB l = true → l.Nodup
  | [], _ => List.nodup_nil
  | x :: l, h => by
    simp only [nodupB, Bool.and_eq_true, Bool.not_eq_true', List.contains_eq_mem, decide_eq_false_iff_not] at h
    exact List.nodup_cons.2 ⟨h.1, nodupB_spec h.2⟩

def KnownIds (h : List Blk) (ids : List Nat) : Prop := ∀ b ∈ ids, ∃ k, h[b]? = some k ∧ k.st.known = true
theorem KnownIds.append {h : List Blk} {i j : List Nat} (a : KnownIds h i) (b : KnownIds h j) : KnownIds h (i ++ j) := fun x hx => by
  rcases List.mem_append.1 hx with hx | hx
  · exact a x hx
  · exact b x hx
theorem KnownIds.nil (h : List Blk) : KnownIds h [] := fun x hx => by simp at hx
theorem fzL_known {h : List Blk} {f : C → Option (C × List Nat)} (hf : ∀ c c' i, f c = some (c', i) → KnownIds h i) : ∀ {cs cs' ids}, fzL f cs = some (cs', ids) → KnownIds h ids
  | [], cs', ids, e => by simp only [fzL, Option.some.injEq, Prod.mk.injEq] at e; rw [← e.2]; exact KnownIds.nil h
  | c :: cs, cs', ids, e => by
    simp only [fzL] at e
    split at e
    · rename_i c1 i c2 j h1 h2
      simp only [Option.some.injEq, Prod.mk.injEq] at e
      rw [← e.2]
      exact (hf _ _ _ h1).append (fzL_known hf h2)
    · cases e
theorem fzRows_known {h : List Blk} {f : C → Option (C × List Nat)} (hf : ∀ c c' i, f c = some (c', i) → KnownIds h i) : ∀ {cs cs' ids}, fzRows f cs = some (cs', ids) → KnownIds h ids
  | [], cs', ids, e => by simp only [fzRows, Option.some.injEq, Prod.mk.injEq] at e; rw [← e.2]; exact KnownIds.nil h
  | c :: cs, cs', ids, e => by
    simp only [fzRows] at e
    split at e
    · rename_i c1 i c2 j h1 h2
      simp only [Option.some.injEq, Prod.mk.injEq] at e
      rw [← e.2]
      exact (fzL_known hf h1).append (fzRows_known hf h2)
    · cases e
theorem fz_known {h : List Blk} : ∀ (d : Nat) (c c' : C) (ids : List Nat), fz h d c = some (c', ids) → KnownIds h ids := by
  intro d
  induction d with
  | zero =>
    intro c c' ids e
    unfold fz at e
    split at e <;> (try (cases e; done)) <;> first
      | (simp only [Option.some.injEq, Prod.mk.injEq] at e; rw [← e.2]; exact KnownIds.nil h)
      | (rename_i hd; cases hd)
  | succ d ih =>
    intro c c' ids e
    unfold fz at e
    split at e <;> (try (cases e; done)) <;> try (simp only [Option.some.injEq, Prod.mk.injEq] at e; rw [← e.2]; exact KnownIds.nil h)
    rename_i d' sx b n hd
    obtain rfl : d = d' := by omega
    split at e
    · rename_i k hb
      split at e
      · rename_i hk
        have hb1 : KnownIds h [b] := fun x hx => by simp at hx; subst hx; exact ⟨k, hb, hk.1⟩
        split at e
        · simp only [Option.some.injEq, Prod.mk.injEq] at e; rw [← e.2]; exact hb1
        · split at e
          · rename_i rows i hr
            simp only [Option.some.injEq, Prod.mk.injEq] at e; rw [← e.2]
            exact hb1.append (fzRows_known ih hr)
          · cases e
      · cases e
    · cases e
section
variable {X X' μ : List Nat} {h : List Blk} {w : World}

/-- what the pieces of a handing over ask -/
structure Hand (X' X μ : List Nat) (h : List Blk) (L' : List Nat) (ks ids : List Nat) : Prop where
  sub : ∀ x, x ∈ L' → x ∈ X ++ alive μ h
  ids : ∀ b ∈ ids, ∀ g, μ[b]? = some g → g ∉ L'

def mapK (μ ks : List Nat) : List Nat := ks.map fun b => μ.getD b 0
theorem mapK_get {ks : List Nat} {b b' g : Nat} (hp : ks[b']? = some b) (hg : μ[b]? = some g) : (mapK μ ks)[b']? = some g := by
  simp only [mapK, List.getElem?_map, hp, Option.map_some, List.getD_eq_getElem?_getD, hg, Option.getD_some]

mutual
theorem prC_sound {z : Bool} (hS : Sim X μ h w) {L' ks all : List Nat} (hH : Hand X' X μ h L' ks all) : ∀ (c c' : C) (ids : List Nat) (u : Value), prC z h ks c = some (c', ids) → (∀ b ∈ ids, b ∈ all) → C.rep (X ++ alive μ h) μ w c u → C.rep L' (mapK μ ks) w c' u
  | .ptr s b i j, c', ids, u, e, _, hr => by
    simp only [prC] at e
    split at e
    · rename_i b' hb
      simp only [Option.some.injEq, Prod.mk.injEq] at e
      rw [← e.1]
      simp only [C.rep] at hr ⊢
      obtain ⟨g, hg, rfl⟩ := hr
      exact ⟨g, mapK_get (pos_spec hb) hg, rfl⟩
    · cases e
  | .row s b n, c', ids, u, e, hi, hr => by
    simp only [prC] at e
    split at e
    · rename_i b' hb
      simp only [Option.some.injEq, Prod.mk.injEq] at e
      rw [← e.1]
      simp only [C.rep] at hr ⊢
      obtain ⟨g, cap, hg, h2⟩ := hr
      exact ⟨g, cap, mapK_get (pos_spec hb) hg, h2⟩
    · exact C.rep.carry Carry.any (fz_sound hS hH.sub 6 _ c' ids u e (fun b hb => hH.ids b (hi b hb)) hr)
  | .fn f caps, c', ids, u, e, hi, hr => by
    simp only [prC] at e
    split at e
    · rename_i cs ids' hb
      simp only [Option.some.injEq, Prod.mk.injEq] at e
      rw [← e.1]
      simp only [C.rep] at hr ⊢
      obtain ⟨arr, rfl, h2⟩ := hr
      exact ⟨arr, rfl, prCs_sound hS hH caps cs ids' _ hb (by rw [e.2]; exact hi) h2⟩
    · cases e
  | .cur _ _, c', ids, u, e, _, hr => by simp [prC] at e
  | .top, c', ids, u, e, _, hr => by
    simp only [prC, Option.some.injEq, Prod.mk.injEq] at e
    rw [← e.1]; simpa [C.rep] using hr
  | .sc v, c', ids, u, e, hi, hr => by
    simp only [prC] at e
    split at e
    · exact C.rep.carry Carry.any (fz_sound hS hH.sub 6 _ c' ids u e (fun b hb => hH.ids b (hi b hb)) hr)
    · simp only [Option.some.injEq, Prod.mk.injEq] at e
      rw [← e.1]; simpa [C.rep] using hr
  | .sl rows, c', ids, u, e, _, hr => by
    simp only [prC, Option.some.injEq, Prod.mk.injEq] at e
    rw [← e.1]
    have := C.rep.sub hH.sub hr
    simp only [C.rep] at this ⊢
    exact this
theorem prCs_sound {z : Bool} (hS : Sim X μ h w) {L' ks all : List Nat} (hH : Hand X' X μ h L' ks all) : ∀ (cs cs' : List C) (ids : List Nat) (us : List Value), prCs z h ks cs = some (cs', ids) → (∀ b ∈ ids, b ∈ all) → C.repl (X ++ alive μ h) μ w cs us → C.repl L' (mapK μ ks) w cs' us
  | [], cs', ids, us, e, _, hr => by
    simp only [prCs, Option.some.injEq, Prod.mk.injEq] at e
    rw [← e.1]; simpa [C.repl] using hr
  | c :: cs, cs', ids, us, e, hi, hr => by
    simp only [prCs] at e
    split at e
    · rename_i c1 i1 c2 i2 h1 h2
      simp only [Option.some.injEq, Prod.mk.injEq] at e
      rw [← e.1]
      simp only [C.repl] at hr ⊢
      obtain ⟨u, us', rfl, r1, r2⟩ := hr
      rw [← e.2] at hi
      exact ⟨u, us', rfl, prC_sound hS hH c c1 i1 u h1 (fun b hb => hi b (by simp [hb])) r1, prCs_sound hS hH cs c2 i2 us' h2 (fun b hb => hi b (by simp [hb])) r2⟩
    · cases e
end
mutual
theorem prV_sound {z : Bool} (hS : Sim X μ h w) {L' ks all : List Nat} (hH : Hand X' X μ h L' ks all) : ∀ (v v' : AV) (ids : List Nat) (u : Value), prV z h ks v = some (v', ids) → (∀ b ∈ ids, b ∈ all) → AV.rep (X ++ alive μ h) μ w v u → AV.rep L' (mapK μ ks) w v' u
  | .one c, v', ids, u, e, hi, hr => by
    simp only [prV] at e
    split at e
    · rename_i c1 i1 h1
      simp only [Option.some.injEq, Prod.mk.injEq] at e
      rw [← e.1]
      simp only [AV.rep] at hr ⊢
      exact prC_sound hS hH c c1 i1 u h1 (by rw [e.2]; exact hi) hr
    · cases e
  | .agg cs, v', ids, u, e, hi, hr => by
    simp only [prV] at e
    split at e
    · rename_i c1 i1 h1
      simp only [Option.some.injEq, Prod.mk.injEq] at e
      rw [← e.1]
      simp only [AV.rep] at hr ⊢
      obtain ⟨arr, rfl, h2⟩ := hr
      refine ⟨arr, rfl, ?_⟩
      unfold prL at h1
      split at h1
      · rename_i ht
        simp only [Option.some.injEq, Prod.mk.injEq] at h1
        rw [← h1.1]
        exact C.repl.carry (K := []) ⟨Keep.refl _ _, fun _ _ _ => by simp, fun x _ hx hm => hx (hH.sub x hm), fun _ _ h => by simp at h⟩ (C.repl_tree ht h2)
      · exact prCs_sound hS hH cs c1 i1 _ h1 (by rw [e.2]; exact hi) h2
    · cases e
  | .tup vs, v', ids, u, e, hi, hr => by
    simp only [prV] at e
    split at e
    · rename_i c1 i1 h1
      simp only [Option.some.injEq, Prod.mk.injEq] at e
      rw [← e.1]
      simp only [AV.rep] at hr ⊢
      obtain ⟨arr, rfl, h2⟩ := hr
      exact ⟨arr, rfl, prVs_sound hS hH vs c1 i1 _ h1 (by rw [e.2]; exact hi) h2⟩
    · cases e
theorem prVs_sound {z : Bool} (hS : Sim X μ h w) {L' ks all : List Nat} (hH : Hand X' X μ h L' ks all) : ∀ (vs vs' : List AV) (ids : List Nat) (us : List Value), prVs z h ks vs = some (vs', ids) → (∀ b ∈ ids, b ∈ all) → AV.repl (X ++ alive μ h) μ w vs us → AV.repl L' (mapK μ ks) w vs' us
  | [], vs', ids, us, e, _, hr => by
    simp only [prVs, Option.some.injEq, Prod.mk.injEq] at e
    rw [← e.1]; simpa [AV.repl] using hr
  | v :: vs, vs', ids, us, e, hi, hr => by
    simp only [prVs] at e
    split at e
    · rename_i c1 i1 c2 i2 h1 h2
      simp only [Option.some.injEq, Prod.mk.injEq] at e
      rw [← e.1]
      simp only [AV.repl] at hr ⊢
      obtain ⟨u, us', rfl, r1, r2⟩ := hr
      rw [← e.2] at hi
      exact ⟨u, us', rfl, prV_sound hS hH v c1 i1 u h1 (fun b hb => hi b (by simp [hb])) r1, prVs_sound hS hH vs c2 i2 us' h2 (fun b hb => hi b (by simp [hb])) r2⟩
    · cases e
end
end
end Go.Proofs.Sh
/- Handing over: the whole; and taking back. -/
namespace Go.Proofs.Sh
open Go.RowKit

mutual
theorem prC_known {z : Bool} {h : List Blk} {ks : List Nat} : ∀ (c c' : C) (ids : List Nat), prC z h ks c = some (c', ids) → KnownIds h ids
  | .ptr s b i j, c', ids, e => by
    simp only [prC] at e
    split at e
    · simp only [Option.some.injEq, Prod.mk.injEq] at e; rw [← e.2]; exact KnownIds.nil h
    · cases e
  | .row s b n, c', ids, e => by
    simp only [prC] at e
    split at e
    · simp only [Option.some.injEq, Prod.mk.injEq] at e; rw [← e.2]; exact KnownIds.nil h
    · exact fz_known 6 _ _ _ e
  | .fn f caps, c', ids, e => by
    simp only [prC] at e
    split at e
    · rename_i cs i hc
      simp only [Option.some.injEq, Prod.mk.injEq] at e; rw [← e.2]; exact prCs_known caps cs i hc
    · cases e
  | .cur _ _, c', ids, e => by simp [prC] at e
  | .top, c', ids, e => by simp only [prC, Option.some.injEq, Prod.mk.injEq] at e; rw [← e.2]; exact KnownIds.nil h
  | .sc v, c', ids, e => by
    simp only [prC] at e
    split at e
    · exact fz_known 6 _ _ _ e
    · simp only [Option.some.injEq, Prod.mk.injEq] at e; rw [← e.2]; exact KnownIds.nil h
  | .sl rows, c', ids, e => by simp only [prC, Option.some.injEq, Prod.mk.injEq] at e; rw [← e.2]; exact KnownIds.nil h
theorem prCs_known {z : Bool} {h : List Blk} {ks : List Nat} : ∀ (cs cs' : List C) (ids : List Nat), prCs z h ks cs = some (cs', ids) → KnownIds h ids
  | [], cs', ids, e => by simp only [prCs, Option.some.injEq, Prod.mk.injEq] at e; rw [← e.2]; exact KnownIds.nil h
  | c :: cs, cs', ids, e => by
    simp only [prCs] at e
    split at e
    · rename_i c1 i1 c2 i2 h1 h2
      simp only [Option.some.injEq, Prod.mk.injEq] at e; rw [← e.2]
      exact (prC_known c c1 i1 h1).append (prCs_known cs c2 i2 h2)
    · cases e
end
mutual
theorem prV_known {z : Bool} {h : List Blk} {ks : List Nat} : ∀ (v v' : AV) (ids : List Nat), prV z h ks v = some (v', ids) → KnownIds h ids
  | .one c, v', ids, e => by
    simp only [prV] at e
    split at e
    · rename_i c1 i1 h1
      simp only [Option.some.injEq, Prod.mk.injEq] at e; rw [← e.2]; exact prC_known c c1 i1 h1
    · cases e
  | .agg cs, v', ids, e => by
    simp only [prV] at e
    split at e
    · rename_i c1 i1 h1
      simp only [Option.some.injEq, Prod.mk.injEq] at e; rw [← e.2]
      unfold prL at h1
      split at h1
      · simp only [Option.some.injEq, Prod.mk.injEq] at h1; rw [← h1.2]; exact KnownIds.nil h
      · exact prCs_known cs c1 i1 h1
    · cases e
  | .tup vs, v', ids, e => by
    simp only [prV] at e
    split at e
    · rename_i c1 i1 h1
      simp only [Option.some.injEq, Prod.mk.injEq] at e; rw [← e.2]; exact prVs_known vs c1 i1 h1
    · cases e
theorem prVs_known {z : Bool} {h : List Blk} {ks : List Nat} : ∀ (vs vs' : List AV) (ids : List Nat), prVs z h ks vs = some (vs', ids) → KnownIds h ids
  | [], vs', ids, e => by simp only [prVs, Option.some.injEq, Prod.mk.injEq] at e; rw [← e.2]; exact KnownIds.nil h
  | v :: vs, vs', ids, e => by
    simp only [prVs] at e
    split at e
    · rename_i c1 i1 c2 i2 h1 h2
      simp only [Option.some.injEq, Prod.mk.injEq] at e; rw [← e.2]
      exact (prV_known v c1 i1 h1).append (prVs_known vs c2 i2 h2)
    · cases e
end

theorem prL_known {z : Bool} {h : List Blk} {ks : List Nat} {cs cs' : List C} {ids : List Nat} (e : prL z h ks cs = some (cs', ids)) : KnownIds h ids := by
  unfold prL at e
  split at e
  · simp only [Option.some.injEq, Prod.mk.injEq] at e; rw [← e.2]; exact KnownIds.nil h
  · exact prCs_known _ _ _ e
theorem prRs_known {h : List Blk} {ks : List Nat} : ∀ {rows rows' : List (List C)} {ids : List Nat}, prRs h ks rows = some (rows', ids) → KnownIds h ids
  | [], rows', ids, e => by simp only [prRs, Option.some.injEq, Prod.mk.injEq] at e; rw [← e.2]; exact KnownIds.nil h
  | r :: rows, rows', ids, e => by
    simp only [prRs] at e
    split at e
    · rename_i c1 i1 c2 i2 h1 h2
      simp only [Option.some.injEq, Prod.mk.injEq] at e; rw [← e.2]
      exact (prL_known h1).append (prRs_known h2)
    · cases e
theorem prR_known {h : List Blk} {ks : List Nat} {rows rows' : List (List C)} {ids : List Nat} (e : prR h ks rows = some (rows', ids)) : KnownIds h ids := by
  unfold prR at e
  split at e
  · simp only [Option.some.injEq, Prod.mk.injEq] at e; rw [← e.2]; exact KnownIds.nil h
  · exact prRs_known e

theorem prH_spec {h : List Blk} {all : List Nat} : ∀ {ks : List Nat} {K : List Blk} {ids : List Nat}, prH h all ks = some (K, ids) → KnownIds h ids ∧ K.length = ks.length ∧
    ∀ (i b : Nat), ks[i]? = some b → ∃ k k', h[b]? = some k ∧ K[i]? = some k' ∧ k'.st = k.st ∧ (k.st.known = true → ∃ rows j, prR h all k.rows = some (rows, j) ∧ k' = ⟨k.s, k.ty, k.st, rows⟩ ∧ ∀ x ∈ j, x ∈ ids)
  | [], K, ids, e => by
    simp only [prH, Option.some.injEq, Prod.mk.injEq] at e
    obtain ⟨rfl, rfl⟩ := e
    exact ⟨KnownIds.nil h, rfl, by simp⟩
  | b :: ks, K, ids, e => by
    simp only [prH] at e
    split at e
    · rename_i k hb
      split at e
      · rename_i hk
        split at e
        · rename_i rows i K' j h1 h2
          simp only [Option.some.injEq, Prod.mk.injEq] at e
          obtain ⟨rfl, rfl⟩ := e
          obtain ⟨q1, q2, q3⟩ := prH_spec h2
          refine ⟨(prR_known h1).append q1, by simp [q2], fun m b' hm => ?_⟩
          cases m with
          | zero => simp at hm; subst hm; exact ⟨k, _, hb, rfl, rfl, fun _ => ⟨rows, i, h1, rfl, fun x hx => by simp [hx]⟩⟩
          | succ m =>
            obtain ⟨k', k2, p1, p2, p3, p4⟩ := q3 m b' (by simpa using hm)
            exact ⟨k', k2, p1, by simpa using p2, p3, fun h => let ⟨r, j', a1, a2, a3⟩ := p4 h; ⟨r, j', a1, a2, fun x hx => by simp [a3 x hx]⟩⟩
        · cases e
      · rename_i hk
        split at e
        · rename_i K' j h2
          simp only [Option.some.injEq, Prod.mk.injEq] at e
          obtain ⟨rfl, rfl⟩ := e
          obtain ⟨q1, q2, q3⟩ := prH_spec h2
          refine ⟨q1, by simp [q2], fun m b' hm => ?_⟩
          cases m with
          | zero =>
            simp at hm; subst hm
            refine ⟨k, _, hb, rfl, ?_, fun h => absurd h hk⟩
            cases hst : k.st <;> simp [hst, St.known] at hk ⊢
          | succ m =>
            obtain ⟨k', k2, p1, p2, p3, p4⟩ := q3 m b' (by simpa using hm)
            exact ⟨k', k2, p1, by simpa using p2, p3, p4⟩
        · cases e
    · cases e

section
variable {X μ : List Nat} {h : List Blk} {w : World}

theorem prCs_len {z : Bool} {ks : List Nat} : ∀ {cs cs' : List C} {ids : List Nat}, prCs z h ks cs = some (cs', ids) → cs'.length = cs.length
  | [], cs', ids, e => by simp only [prCs, Option.some.injEq, Prod.mk.injEq] at e; rw [← e.1]
  | c :: cs, cs', ids, e => by
    simp only [prCs] at e
    split at e
    · rename_i c1 i1 c2 i2 h1 h2
      simp only [Option.some.injEq, Prod.mk.injEq] at e; rw [← e.1]
      simp [prCs_len h2]
    · cases e
theorem prL_len {z : Bool} {ks : List Nat} {cs cs' : List C} {ids : List Nat} (e : prL z h ks cs = some (cs', ids)) : cs'.length = cs.length := by
  unfold prL at e
  split at e
  · simp only [Option.some.injEq, Prod.mk.injEq] at e; rw [← e.1]
  · exact prCs_len e
theorem prL_sound {z : Bool} {X' : List Nat} (hS : Sim X μ h w) {L' ks all : List Nat} (hH : Hand X' X μ h L' ks all) {cs cs' : List C} {ids : List Nat} {us : List Value} (e : prL z h ks cs = some (cs', ids)) (hi : ∀ b ∈ ids, b ∈ all) (hr : C.repl (X ++ alive μ h) μ w cs us) : C.repl L' (mapK μ ks) w cs' us := by
  unfold prL at e
  split at e
  · rename_i ht
    simp only [Option.some.injEq, Prod.mk.injEq] at e
    rw [← e.1]
    exact C.repl.carry (K := []) ⟨Keep.refl _ _, fun _ _ _ => by simp, fun x _ hx hm => hx (hH.sub x hm), fun _ _ h => by simp at h⟩ (C.repl_tree ht hr)
  · exact prCs_sound hS hH cs cs' ids us e hi hr
theorem prRs_get {ks : List Nat} : ∀ {rows rows' : List (List C)} {ids : List Nat}, prRs h ks rows = some (rows', ids) → rows'.length = rows.length ∧ ∀ (j : Nat) (r' : List C), rows'[j]? = some r' → ∃ r i, rows[j]? = some r ∧ prL false h ks r = some (r', i) ∧ ∀ b ∈ i, b ∈ ids
  | [], cs', ids, e => by
    simp only [prRs, Option.some.injEq, Prod.mk.injEq] at e
    obtain ⟨rfl, rfl⟩ := e
    simp
  | c :: cs, cs', ids, e => by
    simp only [prRs] at e
    split at e
    · rename_i c1 i cs1 j h1 h2
      simp only [Option.some.injEq, Prod.mk.injEq] at e
      obtain ⟨rfl, rfl⟩ := e
      obtain ⟨q1, q2⟩ := prRs_get h2
      refine ⟨by simp [q1], fun m c' hm => ?_⟩
      cases m with
      | zero => simp at hm; subst hm; exact ⟨c, i, rfl, h1, fun b hb => by simp [hb]⟩
      | succ m =>
        obtain ⟨c2, i2, e1, e2, e3⟩ := q2 m c' (by simpa using hm)
        exact ⟨c2, i2, by simpa using e1, e2, fun b hb => by simp [e3 b hb]⟩
    · cases e

/-- a row of an own block, as values -/
theorem Laid.row {L : List Nat} {cur : Array Value} {s i : Nat} {rows : List (List C)} {r : List C} (hl : Laid L μ w cur s rows) (hr : rows[i]? = some r) : C.repl L μ w r ((cur.toList.drop (i * s)).take s) := by
  obtain ⟨h1, h2⟩ := hl i r hr
  refine C.repl_of ?_ (fun j c u hj hu => ?_)
  · have hlen : ∀ j, j < r.length → i * s + j < cur.size := fun j hj => by
      obtain ⟨u, hu, _⟩ := h2 j _ (List.getElem?_eq_getElem hj)
      exact (Array.getElem?_eq_some_iff.1 hu).1
    simp only [List.length_take, List.length_drop, Array.length_toList]
    rcases Nat.eq_zero_or_pos r.length with h0 | hp
    · omega
    · have := hlen (r.length - 1) (by omega); omega
  · obtain ⟨u', hu', hv⟩ := h2 j c hj
    rw [List.getElem?_take] at hu
    split at hu
    · rw [List.getElem?_drop, Array.getElem?_toList, hu'] at hu
      cases hu; exact hv
    · cases hu

theorem prR_sound {X' : List Nat} (hS : Sim X μ h w) {L' ks all : List Nat} (hH : Hand X' X μ h L' ks all) {rows rows' : List (List C)} {ids : List Nat} {cur : Array Value} {s : Nat} (e : prR h ks rows = some (rows', ids)) (hids : ∀ b ∈ ids, b ∈ all)
    (hl : Laid (X ++ alive μ h) μ w cur s rows) : Laid L' (mapK μ ks) w cur s rows' := by
  have key : ∀ (i : Nat) (r r' : List C) (ids' : List Nat), rows[i]? = some r → prL false h ks r = some (r', ids') → (∀ b ∈ ids', b ∈ all) → r'.length = s ∧ ∀ (j : Nat) (c : C), r'[j]? = some c → ∃ u, cur[i * s + j]? = some u ∧ C.rep L' (mapK μ ks) w c u := by
    intro i r r' ids' hi hp hb
    have h1 := hl.row hi
    have h2 := prL_sound hS hH hp hb h1
    have h3 := prL_len hp
    have h4 := (hl i r hi).1
    refine ⟨by omega, fun j c hj => ?_⟩
    obtain ⟨u, hu, hv⟩ := C.repl_get h2 j c hj
    rw [List.getElem?_take] at hu
    split at hu
    · rw [List.getElem?_drop, Array.getElem?_toList] at hu
      exact ⟨u, hu, hv⟩
    · cases hu
  unfold prR at e
  split at e
  · rename_i ht
    simp only [Option.some.injEq, Prod.mk.injEq] at e
    rw [← e.1]
    intro i r hi
    have h1 := List.all_eq_true.1 ht r (List.mem_of_getElem? hi)
    exact key i r r [] hi (by simp only [prL, h1, if_true]) (by simp)
  · obtain ⟨e1, e2⟩ := prRs_get e
    intro i r' hi
    obtain ⟨r, i1, q1, q2, q3⟩ := e2 i r' hi
    exact key i r r' i1 q1 q2 (fun b hb => hids b (q3 b hb))

/-- the outcome of a handing over -/
structure Handed (X μ : List Nat) (h : List Blk) (w : World) (ks : List Nat) (vs' : List AV) (us : List Value) (K h1 : List Blk) : Prop where
  sim : Sim X μ h1 w
  stp : Stp μ h w μ h1 w
  nodup : ks.Nodup
  len : h1.length = h.length
  klen : K.length = ks.length
  blk : ∀ (i b : Nat), ks[i]? = some b → ∃ k k', h1[b]? = some k ∧ K[i]? = some k' ∧ k'.st = k.st
  out : ∀ X' : List Nat, (∀ x ∈ X', x ∈ X ++ alive μ h1) → (∀ (m g : Nat) (k : Blk), (mapK μ ks)[m]? = some g → K[m]? = some k → k.st.known = true → g ∉ X') → Sim X' (mapK μ ks) K w ∧ AV.repl (X' ++ alive (mapK μ ks) K) (mapK μ ks) w vs' us

theorem prep_sound {z : Bool} {ks : List Nat} {vs vs' : List AV} {K h1 : List Blk} {us : List Value} (hS : Sim X μ h w) (hp : prep z h ks vs = some (vs', K, h1)) (hr : AV.repl (X ++ alive μ h) μ w vs us) : Handed X μ h w ks vs' us K h1 := by
  unfold prep at hp
  split at hp
  · rename_i vs1 i K1 j hv hh
    split at hp
    · rename_i hc
      simp only [Option.some.injEq, Prod.mk.injEq] at hp
      obtain ⟨rfl, rfl, rfl⟩ := hp
      obtain ⟨hap, hnd⟩ := hc
      have hnd := nodupB_spec hnd
      obtain ⟨hk2, hkl, hkb⟩ := prH_spec hh
      have hk1 := prVs_known _ _ _ hv
      obtain ⟨s1, s2, s3, s4⟩ := frzAt_spec (i ++ j) hS (hk1.append hk2)
      have hnot : ∀ b ∈ i ++ j, b ∉ ks := fun b hb hm => by
        have := List.all_eq_true.1 hap b hb
        simp [hm] at this
      have hks : ∀ (m b : Nat), ks[m]? = some b → ∃ k, h[b]? = some k ∧ (frzAt (i ++ j) h)[b]? = some k := fun m b hm => by
        obtain ⟨k, k2, p1, p2, p3, p4⟩ := hkb m b hm
        obtain ⟨k', e1, _, _, e4⟩ := s4 b k p1
        have := e4 (fun hx => hnot b hx (List.mem_of_getElem? hm))
        rw [this] at e1
        exact ⟨k, p1, e1⟩
      refine ⟨s1, s2, hnd, s3, hkl, fun m b hm => ?_, fun X' hX1 hX2 => ?_⟩
      · obtain ⟨k, k2, p1, p2, p3, p4⟩ := hkb m b hm
        obtain ⟨k3, e1, e2⟩ := hks m b hm
        rw [p1] at e1; cases e1
        exact ⟨k, k2, e2, p2, p3⟩
      · have hget : ∀ (m g : Nat), (mapK μ ks)[m]? = some g → ∃ b k, ks[m]? = some b ∧ μ[b]? = some g ∧ (frzAt (i ++ j) h)[b]? = some k ∧ h[b]? = some k := fun m g hm => by
          simp only [mapK, List.getElem?_map, Option.map_eq_some_iff] at hm
          obtain ⟨b, hb, hg⟩ := hm
          obtain ⟨k, e0, e1⟩ := hks m b hb
          obtain ⟨g', hg', _⟩ := hS.get e0
          rw [List.getD_eq_getElem?_getD, hg', Option.getD_some] at hg
          subst hg
          exact ⟨b, k, hb, hg', e1, e0⟩
        have hal : ∀ x, x ∈ alive (mapK μ ks) K1 → x ∈ alive μ (frzAt (i ++ j) h) := fun x hx => by
          obtain ⟨m, q, h1, h2, h3⟩ := mem_alive.1 hx
          obtain ⟨b, k, hb, hg, e1, e0⟩ := hget m x h1
          obtain ⟨k', k2, p1, p2, p3, p4⟩ := hkb m b hb
          rw [e0] at p1; cases p1
          rw [p2] at h2; cases h2
          exact mem_alive.2 ⟨b, k, hg, e1, by rw [← p3]; exact h3⟩
        have hL1 : ∀ x, x ∈ X' ++ alive (mapK μ ks) K1 → x ∈ X ++ alive μ (frzAt (i ++ j) h) := fun x hx => by
          rcases List.mem_append.1 hx with hx | hx
          · exact hX1 x hx
          · exact List.mem_append.2 (.inr (hal x hx))
        have hL0 : ∀ x, x ∈ X' ++ alive (mapK μ ks) K1 → x ∈ X ++ alive μ h := fun x hx => by
          rcases List.mem_append.1 (hL1 x hx) with hx | hx
          · exact List.mem_append.2 (.inl hx)
          · exact List.mem_append.2 (.inr (s2.old x hx (s1.aliveLt hx)))
        have hids : ∀ b ∈ i ++ j, ∀ g, μ[b]? = some g → g ∉ X' ++ alive (mapK μ ks) K1 := fun b hb g hg hx => by
          obtain ⟨k, e1, e2⟩ := (hk1.append hk2) b hb
          rcases List.mem_append.1 (hL1 g hx) with hx | hx
          · exact hS.out b k g e1 e2 hg hx
          · obtain ⟨m, q, h1, h2, h3⟩ := mem_alive.1 hx
            obtain ⟨k', f1, f2, f3, _⟩ := s4 b k e1
            by_cases hm : m = b
            · subst hm
              rw [f1] at h2; cases h2
              rw [f3 hb] at h3; cases h3
            · exact s1.inj m b q k' g hm h2 f1 h3 (by rw [f2.2.2.2.1]; exact e2) h1 hg
        have hH : Hand X' X μ h (X' ++ alive (mapK μ ks) K1) ks (i ++ j) := ⟨hL0, hids⟩
        refine ⟨⟨by simp [mapK, hkl], ?_, ?_, ?_, ?_, ?_⟩, prVs_sound hS hH vs vs1 i us hv (fun b hb => by simp [hb]) hr⟩
        · intro g hg
          obtain ⟨m, hm⟩ := List.getElem?_of_mem hg
          obtain ⟨b, k, _, hb, _⟩ := hget m g hm
          exact hS.lt g (List.mem_of_getElem? hb)
        · intro g hg
          rcases List.mem_append.1 (hX1 g hg) with hx | hx
          · exact hS.xlt g hx
          · exact s1.aliveLt hx
        · intro m q g hq hk hg
          exact hX2 m g q hg hq hk
        · intro m1 m2 q q' g hne h1 h2 h3 h4 hg1 hg2
          obtain ⟨b1, k1, c1, c2, c3, c4⟩ := hget m1 g hg1
          obtain ⟨b2, k2, d1, d2, d3, d4⟩ := hget m2 g hg2
          obtain ⟨k', k3, p1, p2, p3, p4⟩ := hkb m1 b1 c1
          rw [c4] at p1; cases p1
          rw [p2] at h1; cases h1
          obtain ⟨k', k4, p5, p6, p7, p8⟩ := hkb m2 b2 d1
          rw [d4] at p5; cases p5
          rw [p6] at h2; cases h2
          have hb12 : b1 ≠ b2 := fun e => hne (by
            have l1 := (List.getElem?_eq_some_iff.1 c1); have l2 := (List.getElem?_eq_some_iff.1 d1)
            obtain ⟨l1, v1⟩ := l1; obtain ⟨l2, v2⟩ := l2
            have hpw := List.pairwise_iff_getElem.1 hnd
            rcases Nat.lt_trichotomy m1 m2 with hlt | heq | hgt
            · exact absurd (by rw [v1, v2, e]) (hpw m1 m2 l1 l2 hlt)
            · exact heq
            · exact absurd (by rw [v1, v2, e]) (hpw m2 m1 l2 l1 hgt))
          exact s1.inj b1 b2 k1 k2 g hb12 c3 d3 (by rw [← p3]; exact h3) (by rw [← p7]; exact h4) c2 d2
        · intro m q g h1 h2 hg
          obtain ⟨b, k, c1, c2, c3, c4⟩ := hget m g hg
          obtain ⟨k', k3, p1, p2, p3, p4⟩ := hkb m b c1
          rw [c4] at p1; cases p1
          rw [p2] at h1; cases h1
          rw [p3] at h2
          obtain ⟨rows, j', a1, a2, a3⟩ := p4 h2
          subst a2
          obtain ⟨cur, hc, hl⟩ := hS.blk b k g c4 h2 c2
          refine ⟨cur, hc, ?_⟩
          exact prR_sound hS hH a1 (fun x hx => by simp [a3 x hx]) hl
    · cases hp
  · cases hp
end
end Go.Proofs.Sh
/- Taking back what a call has left. -/
namespace Go.Proofs.Sh
open Go.RowKit

mutual
def C.ren (f : Nat → Nat) : C → C
  | .ptr s b i j => .ptr s (f b) i j
  | .row s b n => .row s (f b) n
  | .fn g caps => .fn g (C.renL f caps)
  | .top => .top
  | .sc v => .sc v
  | .sl rows => .sl rows
  | .cur cs j => .cur cs j
def C.renL (f : Nat → Nat) : List C → List C
  | [] => []
  | c :: cs => C.ren f c :: C.renL f cs
end
def renA (f : Nat → Nat) (cs : List C) : List C := if treeL cs then cs else C.renL f cs
def renRows (f : Nat → Nat) (rows : List (List C)) : List (List C) := if treeRows rows then rows else rows.map (renA f)
mutual
def AV.ren (f : Nat → Nat) : AV → AV
  | .one c => .one (C.ren f c)
  | .agg cs => .agg (renA f cs)
  | .tup vs => .tup (AV.renL f vs)
def AV.renL (f : Nat → Nat) : List AV → List AV
  | [] => []
  | v :: vs => AV.ren f v :: AV.renL f vs
end
def Blk.ren (f : Nat → Nat) (k : Blk) : Blk := ⟨k.s, k.ty, k.st, renRows f k.rows⟩

mutual
theorem C.rep_ren {L L' μ μ' : List Nat} {w : World} {f : Nat → Nat} (hL : ∀ x, x ∈ L' → x ∈ L) (hf : ∀ (b g : Nat), μ[b]? = some g → μ'[f b]? = some g) : ∀ {c : C} {u : Value}, C.rep L μ w c u → C.rep L' μ' w (c.ren f) u
  | .ptr s b i j, u, h => by
    simp only [C.ren, C.rep] at h ⊢
    obtain ⟨g, h1, h2⟩ := h
    exact ⟨g, hf b g h1, h2⟩
  | .row s b n, u, h => by
    simp only [C.ren, C.rep] at h ⊢
    obtain ⟨g, cap, h1, h2⟩ := h
    exact ⟨g, cap, hf b g h1, h2⟩
  | .fn g caps, u, h => by
    simp only [C.ren, C.rep] at h ⊢
    obtain ⟨arr, h1, h2⟩ := h
    exact ⟨arr, h1, C.repl_ren hL hf h2⟩
  | .top, u, h => by simpa [C.ren, C.rep] using h
  | .sc v, u, h => by simpa [C.ren, C.rep] using h
  | .sl rows, u, h => by
    have := C.rep.sub hL h
    simp only [C.ren, C.rep] at this ⊢; exact this
  | .cur cs j, u, h => by
    have := C.rep.sub hL h
    simp only [C.ren, C.rep] at this ⊢; exact this
theorem C.repl_ren {L L' μ μ' : List Nat} {w : World} {f : Nat → Nat} (hL : ∀ x, x ∈ L' → x ∈ L) (hf : ∀ (b g : Nat), μ[b]? = some g → μ'[f b]? = some g) : ∀ {cs : List C} {us : List Value}, C.repl L μ w cs us → C.repl L' μ' w (C.renL f cs) us
  | [], us, h => by simpa [C.renL, C.repl] using h
  | c :: cs, us, h => by
    simp only [C.renL, C.repl] at h ⊢
    obtain ⟨u, us', h1, h2, h3⟩ := h
    exact ⟨u, us', h1, C.rep_ren hL hf h2, C.repl_ren hL hf h3⟩
end
theorem repl_renA {L L' μ μ' : List Nat} {w : World} {f : Nat → Nat} (hL : ∀ x, x ∈ L' → x ∈ L) (hf : ∀ (b g : Nat), μ[b]? = some g → μ'[f b]? = some g) {cs : List C} {us : List Value} (h : C.repl L μ w cs us) : C.repl L' μ' w (renA f cs) us := by
  unfold renA
  split
  · rename_i ht
    exact C.repl.carry (K := []) ⟨Keep.refl _ _, fun _ _ _ => by simp, fun x _ hx hm => hx (hL x hm), fun _ _ h => by simp at h⟩ (C.repl_tree ht h)
  · exact C.repl_ren hL hf h
mutual
theorem AV.rep_ren {L L' μ μ' : List Nat} {w : World} {f : Nat → Nat} (hL : ∀ x, x ∈ L' → x ∈ L) (hf : ∀ (b g : Nat), μ[b]? = some g → μ'[f b]? = some g) : ∀ {v : AV} {u : Value}, AV.rep L μ w v u → AV.rep L' μ' w (v.ren f) u
  | .one c, u, h => by simp only [AV.ren, AV.rep] at h ⊢; exact C.rep_ren hL hf h
  | .agg cs, u, h => by
    simp only [AV.ren, AV.rep] at h ⊢
    obtain ⟨arr, h1, h2⟩ := h
    exact ⟨arr, h1, repl_renA hL hf h2⟩
  | .tup vs, u, h => by
    simp only [AV.ren, AV.rep] at h ⊢
    obtain ⟨arr, h1, h2⟩ := h
    exact ⟨arr, h1, AV.repl_ren hL hf h2⟩
theorem AV.repl_ren {L L' μ μ' : List Nat} {w : World} {f : Nat → Nat} (hL : ∀ x, x ∈ L' → x ∈ L) (hf : ∀ (b g : Nat), μ[b]? = some g → μ'[f b]? = some g) : ∀ {vs : List AV} {us : List Value}, AV.repl L μ w vs us → AV.repl L' μ' w (AV.renL f vs) us
  | [], us, h => by simpa [AV.renL, AV.repl] using h
  | v :: vs, us, h => by
    simp only [AV.renL, AV.repl] at h ⊢
    obtain ⟨u, us', h1, h2, h3⟩ := h
    exact ⟨u, us', h1, AV.rep_ren hL hf h2, AV.repl_ren hL hf h3⟩
end
theorem C.renL_length (f : Nat → Nat) : ∀ cs : List C, (C.renL f cs).length = cs.length
  | [] => rfl
  | c :: cs => by simp [C.renL, C.renL_length f cs]
theorem C.renL_get (f : Nat → Nat) : ∀ (cs : List C) (j : Nat), (C.renL f cs)[j]? = (cs[j]?).map (C.ren f)
  | [], j => by simp [C.renL]
  | c :: cs, 0 => by simp [C.renL]
  | c :: cs, j + 1 => by simp [C.renL, C.renL_get f cs j]
theorem C.ren_tree {f : Nat → Nat} {c : C} (h : c.tree = true) : c.ren f = c := by
  cases c <;> first | rfl | (simp [C.tree] at h; done)

theorem Laid.ren {L L' μ μ' : List Nat} {w : World} {f : Nat → Nat} {cur : Array Value} {s : Nat} {rows : List (List C)} (hL : ∀ x, x ∈ L' → x ∈ L) (hf : ∀ (b g : Nat), μ[b]? = some g → μ'[f b]? = some g) (h : Laid L μ w cur s rows) : Laid L' μ' w cur s (renRows f rows) := by
  unfold renRows
  split
  · rename_i ht
    intro i r hr
    obtain ⟨h1, h2⟩ := h i r hr
    refine ⟨h1, fun j c hj => ?_⟩
    obtain ⟨u, hu, hv⟩ := h2 j c hj
    have t1 := List.all_eq_true.1 ht r (List.mem_of_getElem? hr)
    have t2 := List.all_eq_true.1 t1 c (List.mem_of_getElem? hj)
    exact ⟨u, hu, C.rep.carry Carry.any (C.rep.sub hL (C.rep_tree t2 hv))⟩
  · intro i r hr
    rw [List.getElem?_map, Option.map_eq_some_iff] at hr
    obtain ⟨r0, hr0, rfl⟩ := hr
    obtain ⟨h1, h2⟩ := h i r0 hr0
    unfold renA
    split
    · rename_i ht
      refine ⟨h1, fun j c hj => ?_⟩
      obtain ⟨u, hu, hv⟩ := h2 j c hj
      have t2 := List.all_eq_true.1 ht c (List.mem_of_getElem? hj)
      exact ⟨u, hu, C.rep.carry Carry.any (C.rep.sub hL (C.rep_tree t2 hv))⟩
    · refine ⟨by rw [C.renL_length, h1], fun j c hj => ?_⟩
      rw [C.renL_get, Option.map_eq_some_iff] at hj
      obtain ⟨c0, hc0, rfl⟩ := hj
      obtain ⟨u, hu, hv⟩ := h2 j c0 hc0
      exact ⟨u, hu, C.rep_ren hL hf hv⟩

def setAll : List Nat → List Blk → List Blk → List Blk
  | b :: ks, k :: K, h => setAll ks K (h.set b k)
  | _, _, h => h
theorem setAll_length : ∀ (ks : List Nat) (K h : List Blk), (setAll ks K h).length = h.length
  | [], _, h => rfl
  | b :: ks, [], h => rfl
  | b :: ks, k :: K, h => by simp [setAll, setAll_length ks K]
theorem setAll_get : ∀ {ks : List Nat} {K h : List Blk} {x : Nat} {k : Blk}, ks.Nodup → ks.length ≤ K.length → (setAll ks K h)[x]? = some k → (∃ i : Nat, ks[i]? = some x ∧ K[i]? = some k) ∨ (x ∉ ks ∧ h[x]? = some k)
  | [], K, h, x, k, _, _, e => .inr ⟨by simp, by simpa [setAll] using e⟩
  | b :: ks, [], h, x, k, _, hl, e => by simp at hl
  | b :: ks, k0 :: K, h, x, k, hn, hl, e => by
    obtain ⟨hb, hn⟩ := List.nodup_cons.1 hn
    simp only [setAll] at e
    rcases setAll_get hn (by simpa using hl) e with ⟨i, h1, h2⟩ | ⟨h1, h2⟩
    · exact .inl ⟨i + 1, by simpa using h1, by simpa using h2⟩
    · rw [List.getElem?_set] at h2
      split at h2
      · rename_i hbx
        split at h2
        · exact .inl ⟨0, by simpa using hbx, by simpa using h2⟩
        · cases h2
      · rename_i hbx
        exact .inr ⟨by simp only [List.mem_cons, not_or]; exact ⟨fun e => hbx e.symm, h1⟩, h2⟩

/-- the callee's numbers as the caller's -/
def back (n : Nat) (ks : List Nat) (b : Nat) : Nat := if b < ks.length then ks.getD b 0 else n + (b - ks.length)
/-- the caller's own blocks behind the call -/
def merge (h : List Blk) (ks : List Nat) (H : List Blk) : List Blk := setAll ks (H.map (Blk.ren (back h.length ks))) h ++ (H.drop ks.length).map (Blk.ren (back h.length ks))

section
variable {X μ : List Nat} {h h1 : List Blk} {w w2 : World} {ks : List Nat} {vs' : List AV} {us : List Value} {K : List Blk}

def outer (X μ : List Nat) (h1 : List Blk) (ks : List Nat) : List Nat := X ++ (alive μ h1).filter fun g => !(mapK μ ks).contains g

theorem take_back (hH : Handed X μ h w ks vs' us K h1) (hkn : K.all (fun k => k.st.known) = true) {μ2 : List Nat} {H2 : List Blk} {v : AV} {u : Value} (hS2 : Sim (outer X μ h1 ks) μ2 H2 w2) (hT : Stp (mapK μ ks) K w μ2 H2 w2) (hv : AV.rep (outer X μ h1 ks ++ alive μ2 H2) μ2 w2 v u) :
    ∃ μ3, Sim X μ3 (merge h1 ks H2) w2 ∧ Stp μ h1 w μ3 (merge h1 ks H2) w2 ∧ AV.rep (X ++ alive μ3 (merge h1 ks H2)) μ3 w2 (v.ren (back h1.length ks)) u ∧ Keep (mapK μ ks) w w2 := by
  have hblk : ∀ (i b : Nat), ks[i]? = some b → ∃ k k', h1[b]? = some k ∧ k.st.known = true ∧ K[i]? = some k' ∧ k'.st = k.st := fun i b hb => by
    obtain ⟨k, k', e1, e2, e3⟩ := hH.blk i b hb
    exact ⟨k, k', e1, by rw [← e3]; exact List.all_eq_true.1 hkn k' (List.mem_of_getElem? e2), e2, e3⟩
  have hS := hH.sim
  have hμl := hS.len
  have hm2 : ks.length ≤ μ2.length := by
    rcases Nat.lt_or_ge μ2.length ks.length with hlt | hge
    · have hl : μ2.length < (mapK μ ks).length := by simp only [mapK, List.length_map]; exact hlt
      have := hT.map _ _ (List.getElem?_eq_getElem hl)
      rw [List.getElem?_eq_none (Nat.le_refl _)] at this
      cases this
    · exact hge
  have hl2 := hS2.len
  have hf : ∀ (b g : Nat), μ2[b]? = some g → (μ ++ μ2.drop ks.length)[back h1.length ks b]? = some g := fun b g hb => by
    unfold back
    split
    · rename_i hlt
      have hkb : ks[b]? = some (ks.getD b 0) := by rw [List.getD_eq_getElem?_getD, List.getElem?_eq_getElem hlt]; rfl
      obtain ⟨k, k', e1, _, _, _⟩ := hblk b _ hkb
      obtain ⟨g', hg', _⟩ := hS.get e1
      have := hT.map b g' (mapK_get hkb hg')
      rw [hb] at this; cases this
      rw [List.getElem?_append_left (List.getElem?_eq_some_iff.1 hg').1]
      exact hg'
    · rename_i hge
      rw [List.getElem?_append_right (by omega), List.getElem?_drop, ← hb]
      congr 1; omega
  have hget : ∀ (x : Nat) (k : Blk), (merge h1 ks H2)[x]? = some k → (x ∉ ks ∧ x < h1.length ∧ h1[x]? = some k ∧ ∀ g, (μ ++ μ2.drop ks.length)[x]? = some g → μ[x]? = some g) ∨
      ∃ (i : Nat) (k0 : Blk), x = back h1.length ks i ∧ H2[i]? = some k0 ∧ k = k0.ren (back h1.length ks) ∧ ∀ g, (μ ++ μ2.drop ks.length)[x]? = some g → μ2[i]? = some g := fun x k hx => by
    unfold merge at hx
    have sl := setAll_length ks (H2.map (Blk.ren (back h1.length ks))) h1
    rcases Nat.lt_or_ge x h1.length with hlt | hge
    · rw [List.getElem?_append_left (by omega)] at hx
      rcases setAll_get hH.nodup (by simp; omega) hx with ⟨i, e1, e2⟩ | ⟨e1, e2⟩
      · right
        rw [List.getElem?_map, Option.map_eq_some_iff] at e2
        obtain ⟨k0, e2, rfl⟩ := e2
        have hi := (List.getElem?_eq_some_iff.1 e1).1
        have hb : back h1.length ks i = x := by
          unfold back; rw [if_pos hi, List.getD_eq_getElem?_getD, e1]; rfl
        refine ⟨i, k0, hb.symm, e2, rfl, fun g hg => ?_⟩
        have hi2 : i < μ2.length := by have := (List.getElem?_eq_some_iff.1 e2).1; omega
        have := hf i _ (List.getElem?_eq_getElem hi2)
        rw [hb, hg] at this
        rw [List.getElem?_eq_getElem hi2, this]
      · exact .inl ⟨e1, hlt, e2, fun g hg => by rwa [List.getElem?_append_left (by omega)] at hg⟩
    · right
      rw [List.getElem?_append_right (by omega), List.getElem?_map, Option.map_eq_some_iff, sl] at hx
      obtain ⟨k0, e1, rfl⟩ := hx
      rw [List.getElem?_drop] at e1
      refine ⟨_, k0, ?_, e1, rfl, fun g hg => ?_⟩
      · unfold back; rw [if_neg (by omega)]; omega
      · rw [List.getElem?_append_right (by omega), List.getElem?_drop, hμl] at hg
        exact hg
  have halk : ∀ x, x ∈ alive (mapK μ ks) K → ∃ b k, b ∈ ks ∧ h1[b]? = some k ∧ k.st.isMut = true ∧ k.st.known = true ∧ μ[b]? = some x := fun x hx => by
    obtain ⟨i, q, e1, e2, e3⟩ := mem_alive.1 hx
    have hi : i < ks.length := by have := (List.getElem?_eq_some_iff.1 e1).1; simpa [mapK] using this
    obtain ⟨k, k', f1, f2, f3, f4⟩ := hblk i _ (List.getElem?_eq_getElem hi)
    rw [f3] at e2; cases e2
    obtain ⟨g', hg', _⟩ := hS.get f1
    have := mapK_get (List.getElem?_eq_getElem hi) hg'
    rw [e1] at this; cases this
    exact ⟨_, k, List.getElem_mem hi, f1, by rw [← f4]; exact e3, f2, hg'⟩
  have hal1 : ∀ x, x ∈ alive (mapK μ ks) K → x ∈ alive μ h1 := fun x hx => by
    obtain ⟨b, k, _, h2, h3, _, h5⟩ := halk x hx
    exact mem_alive.2 ⟨b, k, h5, h2, h3⟩
  have hmk : ∀ x, x ∈ mapK μ ks → ∃ b k, b ∈ ks ∧ h1[b]? = some k ∧ k.st.known = true ∧ μ[b]? = some x := fun x hx => by
    obtain ⟨i, hi⟩ := List.getElem?_of_mem hx
    have hil : i < ks.length := by have := (List.getElem?_eq_some_iff.1 hi).1; simpa [mapK] using this
    obtain ⟨k, k', f1, f2, _, _⟩ := hblk i _ (List.getElem?_eq_getElem hil)
    obtain ⟨g', hg', _⟩ := hS.get f1
    have := mapK_get (List.getElem?_eq_getElem hil) hg'
    rw [hi] at this; cases this
    exact ⟨_, k, List.getElem_mem hil, f1, f2, hg'⟩
  have hold : ∀ (x : Nat) (k : Blk) (g : Nat), x ∉ ks → h1[x]? = some k → k.st.isMut = true → μ[x]? = some g → g ∈ outer X μ h1 ks := fun x k g hx hk hm hg => by
    refine List.mem_append.2 (.inr (List.mem_filter.2 ⟨mem_alive.2 ⟨x, k, hg, hk, hm⟩, ?_⟩))
    simp only [Bool.not_eq_true', List.contains_eq_mem, decide_eq_false_iff_not]
    intro hmem
    obtain ⟨b, k2, e1, e2, e3, e4⟩ := hmk g hmem
    exact hS.inj x b k k2 g (fun e => hx (e ▸ e1)) hk e2 hm e3 hg e4
  have hmem3 : ∀ x, x ∈ alive (μ ++ μ2.drop ks.length) (merge h1 ks H2) → x ∈ outer X μ h1 ks ∧ x ∈ alive μ h1 ∨ x ∈ alive μ2 H2 := fun x hx => by
    obtain ⟨i, k, e1, e2, e3⟩ := mem_alive.1 hx
    rcases hget i k e2 with ⟨f1, _, f2, f3⟩ | ⟨j, k0, _, f2, rfl, f4⟩
    · exact .inl ⟨hold i k x f1 f2 e3 (f3 x e1), mem_alive.2 ⟨i, k, f3 x e1, f2, e3⟩⟩
    · exact .inr (mem_alive.2 ⟨j, k0, f4 x e1, f2, e3⟩)
  have hL3 : ∀ x, x ∈ X ++ alive (μ ++ μ2.drop ks.length) (merge h1 ks H2) → x ∈ outer X μ h1 ks ++ alive μ2 H2 := fun x hx => by
    rcases List.mem_append.1 hx with hx | hx
    · exact List.mem_append.2 (.inl (List.mem_append.2 (.inl hx)))
    · rcases hmem3 x hx with ⟨h, _⟩ | h
      · exact List.mem_append.2 (.inl h)
      · exact List.mem_append.2 (.inr h)
  have hT3 : Stp μ h1 w (μ ++ μ2.drop ks.length) (merge h1 ks H2) w2 := by
    refine ⟨hT.keep.mono hal1, fun b g hb => by rw [List.getElem?_append_left (List.getElem?_eq_some_iff.1 hb).1]; exact hb, fun x hx hlt => ?_⟩
    rcases hmem3 x hx with ⟨_, h⟩ | h
    · exact h
    · exact hal1 x (hT.old x h hlt)
  refine ⟨μ ++ μ2.drop ks.length, ⟨?_, ?_, fun g hg => Nat.lt_of_lt_of_le (hS.xlt g hg) hT.keep.size, ?_, ?_, ?_⟩, hT3, AV.rep_ren hL3 hf hv, hT.keep.mono fun x hx => by
    obtain ⟨i, q, e1, _, _⟩ := mem_alive.1 hx
    exact List.mem_of_getElem? e1⟩
  · unfold merge
    simp only [List.length_append, List.length_drop, List.length_map, setAll_length]
    omega
  · intro g hg
    rcases List.mem_append.1 hg with hg | hg
    · exact Nat.lt_of_lt_of_le (hS.lt g hg) hT.keep.size
    · exact hS2.lt g (List.mem_of_mem_drop hg)
  · intro i k g hi hk hg
    rcases hget i k hi with ⟨f1, _, f2, f3⟩ | ⟨j, k0, _, f2, rfl, f4⟩
    · exact hS.out i k g f2 hk (f3 g hg)
    · exact fun hx => hS2.out j k0 g f2 hk (f4 g hg) (List.mem_append.2 (.inl hx))
  · intro i j k k' g hij hi hj hm hk hgi hgj
    rcases hget i k hi with ⟨f1, _, f2, f3⟩ | ⟨i', k0, e1, f2, rfl, f4⟩ <;> rcases hget j k' hj with ⟨q1, _, q2, q3⟩ | ⟨j', k1, e2, q2, rfl, q4⟩
    · exact hS.inj i j k k' g hij f2 q2 hm hk (f3 g hgi) (q3 g hgj)
    · exact hS2.out j' k1 g q2 hk (q4 g hgj) (hold i k g f1 f2 hm (f3 g hgi))
    · have hga : g ∈ alive μ2 H2 := mem_alive.2 ⟨i', k0, f4 g hgi, f2, hm⟩
      obtain ⟨b, kb, c1, c2, c3, c4, c5⟩ := halk g (hT.old g hga (hS.lt g (List.mem_of_getElem? (q3 g hgj))))
      exact hS.inj b j kb k' g (fun e => q1 (e ▸ c1)) c2 q2 c3 hk c5 (q3 g hgj)
    · exact hS2.inj i' j' k0 k1 g (fun e => hij (by rw [e1, e2, e])) f2 q2 hm hk (f4 g hgi) (q4 g hgj)
  · intro i k g hi hk hg
    rcases hget i k hi with ⟨f1, _, f2, f3⟩ | ⟨j, k0, _, f2, rfl, f4⟩
    · obtain ⟨cur, hc, hl⟩ := hS.blk i k g f2 hk (f3 g hg)
      refine ⟨cur, ?_, hl.carry hT3.carry⟩
      rw [hT.keep.block g (fun hx => ?_) (hS.lt g (List.mem_of_getElem? (f3 g hg)))]
      · exact hc
      · obtain ⟨b, kb, c1, c2, c3, c4, c5⟩ := halk g hx
        exact hS.inj b i kb k g (fun e => f1 (e ▸ c1)) c2 f2 c3 hk c5 (f3 g hg)
    · obtain ⟨cur, hc, hl⟩ := hS2.blk j k0 g f2 hk (f4 g hg)
      exact ⟨cur, hc, hl.ren hL3 hf⟩
end
end Go.Proofs.Sh
