/- Handing over values and own blocks. -/
import Derived.Test.YtkkijdlgmlffoaaShC
namespace Go.Proofs.Sh
open Go.RowKit

def pos (b : Nat) : List Nat → Option Nat
  | [] => none
  | x :: l => if x = b then some 0 else match pos b l with | some i => some (i + 1) | none => none
theorem pos_spec {b : Nat} : ∀ {l : List Nat} {i : Nat}, pos b l = some i → l[i]? = some b
  | [], i, h => by simp [pos] at h
  | x :: l, i, h => by
    simp only [pos] at h
    split at h
    · rename_i e; cases h; simp [e]
    · split at h
      · rename_i i' h'; cases h; simpa using pos_spec h'
      · cases h
theorem pos_none {b : Nat} : ∀ {l : List Nat}, pos b l = none → b ∉ l
  | [], _ => by simp
  | x :: l, h => by
    simp only [pos] at h
    split at h
    · cases h
    · rename_i e
      split at h
      · cases h
      · rename_i h'
        have := pos_none h'
        simp only [List.mem_cons, not_or]
        exact ⟨fun e' => e e'.symm, this⟩

mutual
def prC (z : Bool) (h : List Blk) (ks : List Nat) : C → Option (C × List Nat)
  | .ptr s b i j => match pos b ks with | some b' => some (.ptr s b' i j, []) | none => none
  | .row s b n => match pos b ks with | some b' => some (.row s b' n, []) | none => fz h 6 (.row s b n)
  | .fn f caps => match prCs z h ks caps with | some (cs, ids) => some (.fn f cs, ids) | none => none
  | .cur _ _ => none
  | .top => some (.top, [])
  | .sc v => match z with | true => fz h 6 (.sc v) | false => some (.sc v, [])
  | .sl rows => some (.sl rows, [])
def prCs (z : Bool) (h : List Blk) (ks : List Nat) : List C → Option (List C × List Nat)
  | [] => some ([], [])
  | c :: cs => match prC z h ks c, prCs z h ks cs with
    | some (c', i), some (cs', j) => some (c' :: cs', i ++ j)
    | _, _ => none
end
def prL (z : Bool) (h : List Blk) (ks : List Nat) (cs : List C) : Option (List C × List Nat) := if treeL cs then some (cs, []) else prCs z h ks cs
mutual
def prV (z : Bool) (h : List Blk) (ks : List Nat) : AV → Option (AV × List Nat)
  | .one c => match prC z h ks c with | some (c, ids) => some (.one c, ids) | none => none
  | .agg cs => match prL z h ks cs with | some (cs, ids) => some (.agg cs, ids) | none => none
  | .tup vs => match prVs z h ks vs with | some (vs, ids) => some (.tup vs, ids) | none => none
def prVs (z : Bool) (h : List Blk) (ks : List Nat) : List AV → Option (List AV × List Nat)
  | [] => some ([], [])
  | v :: vs => match prV z h ks v, prVs z h ks vs with
    | some (v', i), some (vs', j) => some (v' :: vs', i ++ j)
    | _, _ => none
end
def prRs (h : List Blk) (ks : List Nat) : List (List C) → Option (List (List C) × List Nat)
  | [] => some ([], [])
  | r :: rows => match prL false h ks r, prRs h ks rows with
    | some (r', i), some (rows', j) => some (r' :: rows', i ++ j)
    | _, _ => none
def prR (h : List Blk) (ks : List Nat) (rows : List (List C)) : Option (List (List C) × List Nat) := if treeRows rows then some (rows, []) else prRs h ks rows
def prH (h : List Blk) (all : List Nat) : List Nat → Option (List Blk × List Nat)
  | [] => some ([], [])
  | b :: ks => match h[b]? with
    | some k => if k.st.known = true then match prR h all k.rows, prH h all ks with
        | some (rows, i), some (K, j) => some (⟨k.s, k.ty, k.st, rows⟩ :: K, i ++ j)
        | _, _ => none
      else none
    | none => none
def apart (ids ks : List Nat) : Bool := ids.all (fun b => !ks.contains b)
def nodupB : List Nat → Bool
  | [] => true
  | x :: l => !l.contains x && nodupB l
/-- values and the own blocks ks as another's: the values, the blocks, and one's own blocks then -/
def prep (z : Bool) (h : List Blk) (ks : List Nat) (vs : List AV) : Option (List AV × List Blk × List Blk) :=
  match prVs z h ks vs, prH h ks ks with
  | some (vs', i), some (K, j) => if apart (i ++ j) ks = true ∧ nodupB ks = true then some (vs', K, frzAt (i ++ j) h) else none
  | _, _ => none

theorem nodupB_spec : ∀ {l : List Nat}, nodupB l = true → l.Nodup
  | [], _ => List.nodup_nil
  | x :: l, h => by
    simp only [nodupB, Bool.and_eq_true, Bool.not_eq_true', List.contains_eq_mem, decide_eq_false_iff_not] at h
    exact List.nodup_cons.2 ⟨h.1, nodupB_spec h.2⟩

def KnownIds (h : List Blk) (ids : List Nat) : Prop := ∀ b ∈ ids, ∃ k, h[b]? = some k ∧ k.st.known = true
theorem KnownIds.append {h : List Blk} {i j : List Nat} (a : KnownIds h i) (b : KnownIds h j) : KnownIds h (i ++ j) := fun x hx => by
  rcases List.mem_append.1 hx with hx | hx
  · exact a x hx
  · exact b x hx
theorem KnownIds.nil (h : List Blk) : KnownIds h [] := fun x hx => by simp at hx
theorem fzL_known {h : List Blk} {f : C → Option (C × List Nat)} (hf : ∀ c c' i, f c = some (c', i) → KnownIds h i) : ∀ {cs cs' ids}, fzL f cs = some (cs', ids) → KnownIds h ids
  | [], cs', ids, e => by simp only [fzL, Option.some.injEq, Prod.mk.injEq] at e; rw [← e.2]; exact KnownIds.nil h
  | c :: cs, cs', ids, e => by
    simp only [fzL] at e
    split at e
    · rename_i c1 i c2 j h1 h2
      simp only [Option.some.injEq, Prod.mk.injEq] at e
      rw [← e.2]
      exact (hf _ _ _ h1).append (fzL_known hf h2)
    · cases e
theorem fzRows_known {h : List Blk} {f : C → Option (C × List Nat)} (hf : ∀ c c' i, f c = some (c', i) → KnownIds h i) : ∀ {cs cs' ids}, fzRows f cs = some (cs', ids) → KnownIds h ids
  | [], cs', ids, e => by simp only [fzRows, Option.some.injEq, Prod.mk.injEq] at e; rw [← e.2]; exact KnownIds.nil h
  | c :: cs, cs', ids, e => by
    simp only [fzRows] at e
    split at e
    · rename_i c1 i c2 j h1 h2
      simp only [Option.some.injEq, Prod.mk.injEq] at e
      rw [← e.2]
      exact (fzL_known hf h1).append (fzRows_known hf h2)
    · cases e
theorem fz_known {h : List Blk} : ∀ (d : Nat) (c c' : C) (ids : List Nat), fz h d c = some (c', ids) → KnownIds h ids := by
  intro d
  induction d with
  | zero =>
    intro c c' ids e
    unfold fz at e
    split at e <;> (try (cases e; done)) <;> first
      | (simp only [Option.some.injEq, Prod.mk.injEq] at e; rw [← e.2]; exact KnownIds.nil h)
      | (rename_i hd; cases hd)
  | succ d ih =>
    intro c c' ids e
    unfold fz at e
    split at e <;> (try (cases e; done)) <;> try (simp only [Option.some.injEq, Prod.mk.injEq] at e; rw [← e.2]; exact KnownIds.nil h)
    rename_i d' sx b n hd
    obtain rfl : d = d' := by omega
    split at e
    · rename_i k hb
      split at e
      · rename_i hk
        have hb1 : KnownIds h [b] := fun x hx => by simp at hx; subst hx; exact ⟨k, hb, hk.1⟩
        split at e
        · simp only [Option.some.injEq, Prod.mk.injEq] at e; rw [← e.2]; exact hb1
        · split at e
          · rename_i rows i hr
            simp only [Option.some.injEq, Prod.mk.injEq] at e; rw [← e.2]
            exact hb1.append (fzRows_known ih hr)
          · cases e
      · cases e
    · cases e
theorem fz_sc {h : List Blk} {d : Nat} {v : Value} {c' : C} {ids : List Nat} (e : fz h d (.sc v) = some (c', ids)) : ids = [] := by
  unfold fz at e
  split at e <;> (try (cases e; done)) <;> first
    | (simp only [Option.some.injEq, Prod.mk.injEq] at e; exact e.2.symm)
    | (rename_i hd; cases hd)

section
variable {X X' μ : List Nat} {h : List Blk} {w : World}

/-- what the pieces of a handing over ask -/
structure Hand (X' X μ : List Nat) (h : List Blk) (L' : List Nat) (ks ids : List Nat) : Prop where
  sub : ∀ x, x ∈ L' → x ∈ X ++ alive μ h
  ids : ∀ b ∈ ids, ∀ g, μ[b]? = some g → g ∉ L'

def mapK (μ ks : List Nat) : List Nat := ks.map fun b => μ.getD b 0
theorem mapK_get {ks : List Nat} {b b' g : Nat} (hp : ks[b']? = some b) (hg : μ[b]? = some g) : (mapK μ ks)[b']? = some g := by
  simp only [mapK, List.getElem?_map, hp, Option.map_some, List.getD_eq_getElem?_getD, hg, Option.getD_some]

mutual
theorem prC_sound {z : Bool} (hS : Sim X μ h w) {L' ks all : List Nat} (hH : Hand X' X μ h L' ks all) : ∀ (c c' : C) (ids : List Nat) (u : Value), prC z h ks c = some (c', ids) → (∀ b ∈ ids, b ∈ all) → C.rep (X ++ alive μ h) μ w c u → C.rep L' (mapK μ ks) w c' u
  | .ptr s b i j, c', ids, u, e, _, hr => by
    simp only [prC] at e
    split at e
    · rename_i b' hb
      simp only [Option.some.injEq, Prod.mk.injEq] at e
      rw [← e.1]
      simp only [C.rep] at hr ⊢
      obtain ⟨g, hg, rfl⟩ := hr
      exact ⟨g, mapK_get (pos_spec hb) hg, rfl⟩
    · cases e
  | .row s b n, c', ids, u, e, hi, hr => by
    simp only [prC] at e
    split at e
    · rename_i b' hb
      simp only [Option.some.injEq, Prod.mk.injEq] at e
      rw [← e.1]
      simp only [C.rep] at hr ⊢
      obtain ⟨g, cap, hg, h2⟩ := hr
      exact ⟨g, cap, mapK_get (pos_spec hb) hg, h2⟩
    · exact C.rep.carry Carry.any (fz_sound hS hH.sub 6 _ c' ids u e (fun b hb => hH.ids b (hi b hb)) hr)
  | .fn f caps, c', ids, u, e, hi, hr => by
    simp only [prC] at e
    split at e
    · rename_i cs ids' hb
      simp only [Option.some.injEq, Prod.mk.injEq] at e
      rw [← e.1]
      simp only [C.rep] at hr ⊢
      obtain ⟨arr, rfl, h2⟩ := hr
      exact ⟨arr, rfl, prCs_sound hS hH caps cs ids' _ hb (by rw [e.2]; exact hi) h2⟩
    · cases e
  | .cur _ _, c', ids, u, e, _, hr => by simp [prC] at e
  | .top, c', ids, u, e, _, hr => by
    simp only [prC, Option.some.injEq, Prod.mk.injEq] at e
    rw [← e.1]; simpa [C.rep] using hr
  | .sc v, c', ids, u, e, hi, hr => by
    simp only [prC] at e
    split at e
    · exact C.rep.carry Carry.any (fz_sound hS hH.sub 6 _ c' ids u e (fun b hb => hH.ids b (hi b hb)) hr)
    · simp only [Option.some.injEq, Prod.mk.injEq] at e
      rw [← e.1]; simpa [C.rep] using hr
  | .sl rows, c', ids, u, e, _, hr => by
    simp only [prC, Option.some.injEq, Prod.mk.injEq] at e
    rw [← e.1]
    have := C.rep.sub hH.sub hr
    simp only [C.rep] at this ⊢
    exact this
theorem prCs_sound {z : Bool} (hS : Sim X μ h w) {L' ks all : List Nat} (hH : Hand X' X μ h L' ks all) : ∀ (cs cs' : List C) (ids : List Nat) (us : List Value), prCs z h ks cs = some (cs', ids) → (∀ b ∈ ids, b ∈ all) → C.repl (X ++ alive μ h) μ w cs us → C.repl L' (mapK μ ks) w cs' us
  | [], cs', ids, us, e, _, hr => by
    simp only [prCs, Option.some.injEq, Prod.mk.injEq] at e
    rw [← e.1]; simpa [C.repl] using hr
  | c :: cs, cs', ids, us, e, hi, hr => by
    simp only [prCs] at e
    split at e
    · rename_i c1 i1 c2 i2 h1 h2
      simp only [Option.some.injEq, Prod.mk.injEq] at e
      rw [← e.1]
      simp only [C.repl] at hr ⊢
      obtain ⟨u, us', rfl, r1, r2⟩ := hr
      rw [← e.2] at hi
      exact ⟨u, us', rfl, prC_sound hS hH c c1 i1 u h1 (fun b hb => hi b (by simp [hb])) r1, prCs_sound hS hH cs c2 i2 us' h2 (fun b hb => hi b (by simp [hb])) r2⟩
    · cases e
end
mutual
theorem prV_sound {z : Bool} (hS : Sim X μ h w) {L' ks all : List Nat} (hH : Hand X' X μ h L' ks all) : ∀ (v v' : AV) (ids : List Nat) (u : Value), prV z h ks v = some (v', ids) → (∀ b ∈ ids, b ∈ all) → AV.rep (X ++ alive μ h) μ w v u → AV.rep L' (mapK μ ks) w v' u
  | .one c, v', ids, u, e, hi, hr => by
    simp only [prV] at e
    split at e
    · rename_i c1 i1 h1
      simp only [Option.some.injEq, Prod.mk.injEq] at e
      rw [← e.1]
      simp only [AV.rep] at hr ⊢
      exact prC_sound hS hH c c1 i1 u h1 (by rw [e.2]; exact hi) hr
    · cases e
  | .agg cs, v', ids, u, e, hi, hr => by
    simp only [prV] at e
    split at e
    · rename_i c1 i1 h1
      simp only [Option.some.injEq, Prod.mk.injEq] at e
      rw [← e.1]
      simp only [AV.rep] at hr ⊢
      obtain ⟨arr, rfl, h2⟩ := hr
      refine ⟨arr, rfl, ?_⟩
      unfold prL at h1
      split at h1
      · rename_i ht
        simp only [Option.some.injEq, Prod.mk.injEq] at h1
        rw [← h1.1]
        exact C.repl.carry (K := []) ⟨Keep.refl _ _, fun _ _ _ => by simp, fun x _ hx hm => hx (hH.sub x hm), fun _ _ h => by simp at h⟩ (C.repl_tree ht h2)
      · exact prCs_sound hS hH cs c1 i1 _ h1 (by rw [e.2]; exact hi) h2
    · cases e
  | .tup vs, v', ids, u, e, hi, hr => by
    simp only [prV] at e
    split at e
    · rename_i c1 i1 h1
      simp only [Option.some.injEq, Prod.mk.injEq] at e
      rw [← e.1]
      simp only [AV.rep] at hr ⊢
      obtain ⟨arr, rfl, h2⟩ := hr
      exact ⟨arr, rfl, prVs_sound hS hH vs c1 i1 _ h1 (by rw [e.2]; exact hi) h2⟩
    · cases e
theorem prVs_sound {z : Bool} (hS : Sim X μ h w) {L' ks all : List Nat} (hH : Hand X' X μ h L' ks all) : ∀ (vs vs' : List AV) (ids : List Nat) (us : List Value), prVs z h ks vs = some (vs', ids) → (∀ b ∈ ids, b ∈ all) → AV.repl (X ++ alive μ h) μ w vs us → AV.repl L' (mapK μ ks) w vs' us
  | [], vs', ids, us, e, _, hr => by
    simp only [prVs, Option.some.injEq, Prod.mk.injEq] at e
    rw [← e.1]; simpa [AV.repl] using hr
  | v :: vs, vs', ids, us, e, hi, hr => by
    simp only [prVs] at e
    split at e
    · rename_i c1 i1 c2 i2 h1 h2
      simp only [Option.some.injEq, Prod.mk.injEq] at e
      rw [← e.1]
      simp only [AV.repl] at hr ⊢
      obtain ⟨u, us', rfl, r1, r2⟩ := hr
      rw [← e.2] at hi
      exact ⟨u, us', rfl, prV_sound hS hH v c1 i1 u h1 (fun b hb => hi b (by simp [hb])) r1, prVs_sound hS hH vs c2 i2 us' h2 (fun b hb => hi b (by simp [hb])) r2⟩
    · cases e
end
end
end Go.Proofs.Sh
