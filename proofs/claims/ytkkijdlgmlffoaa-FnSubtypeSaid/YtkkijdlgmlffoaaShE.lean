/- Handing over: the whole; and taking back. -/
import Derived.Test.YtkkijdlgmlffoaaShD
namespace Go.Proofs.Sh
open Go.RowKit

mutual
theorem prC_known {z : Bool} {h : List Blk} {ks : List Nat} : ∀ (c c' : C) (ids : List Nat), prC z h ks c = some (c', ids) → KnownIds h ids
  | .ptr s b i j, c', ids, e => by
    simp only [prC] at e
    split at e
    · simp only [Option.some.injEq, Prod.mk.injEq] at e; rw [← e.2]; exact KnownIds.nil h
    · cases e
  | .row s b n, c', ids, e => by
    simp only [prC] at e
    split at e
    · simp only [Option.some.injEq, Prod.mk.injEq] at e; rw [← e.2]; exact KnownIds.nil h
    · exact fz_known 6 _ _ _ e
  | .fn f caps, c', ids, e => by
    simp only [prC] at e
    split at e
    · rename_i cs i hc
      simp only [Option.some.injEq, Prod.mk.injEq] at e; rw [← e.2]; exact prCs_known caps cs i hc
    · cases e
  | .cur _ _, c', ids, e => by simp [prC] at e
  | .top, c', ids, e => by simp only [prC, Option.some.injEq, Prod.mk.injEq] at e; rw [← e.2]; exact KnownIds.nil h
  | .sc v, c', ids, e => by
    simp only [prC] at e
    split at e
    · exact fz_known 6 _ _ _ e
    · simp only [Option.some.injEq, Prod.mk.injEq] at e; rw [← e.2]; exact KnownIds.nil h
  | .sl rows, c', ids, e => by simp only [prC, Option.some.injEq, Prod.mk.injEq] at e; rw [← e.2]; exact KnownIds.nil h
theorem prCs_known {z : Bool} {h : List Blk} {ks : List Nat} : ∀ (cs cs' : List C) (ids : List Nat), prCs z h ks cs = some (cs', ids) → KnownIds h ids
  | [], cs', ids, e => by simp only [prCs, Option.some.injEq, Prod.mk.injEq] at e; rw [← e.2]; exact KnownIds.nil h
  | c :: cs, cs', ids, e => by
    simp only [prCs] at e
    split at e
    · rename_i c1 i1 c2 i2 h1 h2
      simp only [Option.some.injEq, Prod.mk.injEq] at e; rw [← e.2]
      exact (prC_known c c1 i1 h1).append (prCs_known cs c2 i2 h2)
    · cases e
end
mutual
theorem prV_known {z : Bool} {h : List Blk} {ks : List Nat} : ∀ (v v' : AV) (ids : List Nat), prV z h ks v = some (v', ids) → KnownIds h ids
  | .one c, v', ids, e => by
    simp only [prV] at e
    split at e
    · rename_i c1 i1 h1
      simp only [Option.some.injEq, Prod.mk.injEq] at e; rw [← e.2]; exact prC_known c c1 i1 h1
    · cases e
  | .agg cs, v', ids, e => by
    simp only [prV] at e
    split at e
    · rename_i c1 i1 h1
      simp only [Option.some.injEq, Prod.mk.injEq] at e; rw [← e.2]
      unfold prL at h1
      split at h1
      · simp only [Option.some.injEq, Prod.mk.injEq] at h1; rw [← h1.2]; exact KnownIds.nil h
      · exact prCs_known cs c1 i1 h1
    · cases e
  | .tup vs, v', ids, e => by
    simp only [prV] at e
    split at e
    · rename_i c1 i1 h1
      simp only [Option.some.injEq, Prod.mk.injEq] at e; rw [← e.2]; exact prVs_known vs c1 i1 h1
    · cases e
theorem prVs_known {z : Bool} {h : List Blk} {ks : List Nat} : ∀ (vs vs' : List AV) (ids : List Nat), prVs z h ks vs = some (vs', ids) → KnownIds h ids
  | [], vs', ids, e => by simp only [prVs, Option.some.injEq, Prod.mk.injEq] at e; rw [← e.2]; exact KnownIds.nil h
  | v :: vs, vs', ids, e => by
    simp only [prVs] at e
    split at e
    · rename_i c1 i1 c2 i2 h1 h2
      simp only [Option.some.injEq, Prod.mk.injEq] at e; rw [← e.2]
      exact (prV_known v c1 i1 h1).append (prVs_known vs c2 i2 h2)
    · cases e
end

theorem prL_known {z : Bool} {h : List Blk} {ks : List Nat} {cs cs' : List C} {ids : List Nat} (e : prL z h ks cs = some (cs', ids)) : KnownIds h ids := by
  unfold prL at e
  split at e
  · simp only [Option.some.injEq, Prod.mk.injEq] at e; rw [← e.2]; exact KnownIds.nil h
  · exact prCs_known _ _ _ e
theorem prRs_known {h : List Blk} {ks : List Nat} : ∀ {rows rows' : List (List C)} {ids : List Nat}, prRs h ks rows = some (rows', ids) → KnownIds h ids
  | [], rows', ids, e => by simp only [prRs, Option.some.injEq, Prod.mk.injEq] at e; rw [← e.2]; exact KnownIds.nil h
  | r :: rows, rows', ids, e => by
    simp only [prRs] at e
    split at e
    · rename_i c1 i1 c2 i2 h1 h2
      simp only [Option.some.injEq, Prod.mk.injEq] at e; rw [← e.2]
      exact (prL_known h1).append (prRs_known h2)
    · cases e
theorem prR_known {h : List Blk} {ks : List Nat} {rows rows' : List (List C)} {ids : List Nat} (e : prR h ks rows = some (rows', ids)) : KnownIds h ids := by
  unfold prR at e
  split at e
  · simp only [Option.some.injEq, Prod.mk.injEq] at e; rw [← e.2]; exact KnownIds.nil h
  · exact prRs_known e

theorem prH_spec {h : List Blk} {all : List Nat} : ∀ {ks : List Nat} {K : List Blk} {ids : List Nat}, prH h all ks = some (K, ids) → KnownIds h ids ∧ K.length = ks.length ∧
    ∀ (i b : Nat), ks[i]? = some b → ∃ k rows j, h[b]? = some k ∧ k.st.known = true ∧ prR h all k.rows = some (rows, j) ∧ K[i]? = some ⟨k.s, k.ty, k.st, rows⟩ ∧ ∀ x ∈ j, x ∈ ids
  | [], K, ids, e => by
    simp only [prH, Option.some.injEq, Prod.mk.injEq] at e
    obtain ⟨rfl, rfl⟩ := e
    exact ⟨KnownIds.nil h, rfl, by simp⟩
  | b :: ks, K, ids, e => by
    simp only [prH] at e
    split at e
    · rename_i k hb
      split at e
      · rename_i hk
        split at e
        · rename_i rows i K' j h1 h2
          simp only [Option.some.injEq, Prod.mk.injEq] at e
          obtain ⟨rfl, rfl⟩ := e
          obtain ⟨q1, q2, q3⟩ := prH_spec h2
          refine ⟨(prR_known h1).append q1, by simp [q2], fun m b' hm => ?_⟩
          cases m with
          | zero => simp at hm; subst hm; exact ⟨k, rows, i, hb, hk, h1, rfl, fun x hx => by simp [hx]⟩
          | succ m =>
            obtain ⟨k', r', j', p1, p2, p3, p4, p5⟩ := q3 m b' (by simpa using hm)
            exact ⟨k', r', j', p1, p2, p3, by simpa using p4, fun x hx => by simp [p5 x hx]⟩
        · cases e
      · cases e
    · cases e

section
variable {X μ : List Nat} {h : List Blk} {w : World}

theorem prCs_len {z : Bool} {ks : List Nat} : ∀ {cs cs' : List C} {ids : List Nat}, prCs z h ks cs = some (cs', ids) → cs'.length = cs.length
  | [], cs', ids, e => by simp only [prCs, Option.some.injEq, Prod.mk.injEq] at e; rw [← e.1]
  | c :: cs, cs', ids, e => by
    simp only [prCs] at e
    split at e
    · rename_i c1 i1 c2 i2 h1 h2
      simp only [Option.some.injEq, Prod.mk.injEq] at e; rw [← e.1]
      simp [prCs_len h2]
    · cases e
theorem prL_len {z : Bool} {ks : List Nat} {cs cs' : List C} {ids : List Nat} (e : prL z h ks cs = some (cs', ids)) : cs'.length = cs.length := by
  unfold prL at e
  split at e
  · simp only [Option.some.injEq, Prod.mk.injEq] at e; rw [← e.1]
  · exact prCs_len e
theorem prL_sound {z : Bool} {X' : List Nat} (hS : Sim X μ h w) {L' ks all : List Nat} (hH : Hand X' X μ h L' ks all) {cs cs' : List C} {ids : List Nat} {us : List Value} (e : prL z h ks cs = some (cs', ids)) (hi : ∀ b ∈ ids, b ∈ all) (hr : C.repl (X ++ alive μ h) μ w cs us) : C.repl L' (mapK μ ks) w cs' us := by
  unfold prL at e
  split at e
  · rename_i ht
    simp only [Option.some.injEq, Prod.mk.injEq] at e
    rw [← e.1]
    exact C.repl.carry (K := []) ⟨Keep.refl _ _, fun _ _ _ => by simp, fun x _ hx hm => hx (hH.sub x hm), fun _ _ h => by simp at h⟩ (C.repl_tree ht hr)
  · exact prCs_sound hS hH cs cs' ids us e hi hr
theorem prRs_get {ks : List Nat} : ∀ {rows rows' : List (List C)} {ids : List Nat}, prRs h ks rows = some (rows', ids) → rows'.length = rows.length ∧ ∀ (j : Nat) (r' : List C), rows'[j]? = some r' → ∃ r i, rows[j]? = some r ∧ prL false h ks r = some (r', i) ∧ ∀ b ∈ i, b ∈ ids
  | [], cs', ids, e => by
    simp only [prRs, Option.some.injEq, Prod.mk.injEq] at e
    obtain ⟨rfl, rfl⟩ := e
    simp
  | c :: cs, cs', ids, e => by
    simp only [prRs] at e
    split at e
    · rename_i c1 i cs1 j h1 h2
      simp only [Option.some.injEq, Prod.mk.injEq] at e
      obtain ⟨rfl, rfl⟩ := e
      obtain ⟨q1, q2⟩ := prRs_get h2
      refine ⟨by simp [q1], fun m c' hm => ?_⟩
      cases m with
      | zero => simp at hm; subst hm; exact ⟨c, i, rfl, h1, fun b hb => by simp [hb]⟩
      | succ m =>
        obtain ⟨c2, i2, e1, e2, e3⟩ := q2 m c' (by simpa using hm)
        exact ⟨c2, i2, by simpa using e1, e2, fun b hb => by simp [e3 b hb]⟩
    · cases e

/-- a row of an own block, as values -/
theorem Laid.row {L : List Nat} {cur : Array Value} {s i : Nat} {rows : List (List C)} {r : List C} (hl : Laid L μ w cur s rows) (hr : rows[i]? = some r) : C.repl L μ w r ((cur.toList.drop (i * s)).take s) := by
  obtain ⟨h1, h2⟩ := hl i r hr
  refine C.repl_of ?_ (fun j c u hj hu => ?_)
  · have hlen : ∀ j, j < r.length → i * s + j < cur.size := fun j hj => by
      obtain ⟨u, hu, _⟩ := h2 j _ (List.getElem?_eq_getElem hj)
      exact (Array.getElem?_eq_some_iff.1 hu).1
    simp only [List.length_take, List.length_drop, Array.length_toList]
    rcases Nat.eq_zero_or_pos r.length with h0 | hp
    · omega
    · have := hlen (r.length - 1) (by omega); omega
  · obtain ⟨u', hu', hv⟩ := h2 j c hj
    rw [List.getElem?_take] at hu
    split at hu
    · rw [List.getElem?_drop, Array.getElem?_toList, hu'] at hu
      cases hu; exact hv
    · cases hu

theorem prR_sound {X' : List Nat} (hS : Sim X μ h w) {L' ks all : List Nat} (hH : Hand X' X μ h L' ks all) {rows rows' : List (List C)} {ids : List Nat} {cur : Array Value} {s : Nat} (e : prR h ks rows = some (rows', ids)) (hids : ∀ b ∈ ids, b ∈ all)
    (hl : Laid (X ++ alive μ h) μ w cur s rows) : Laid L' (mapK μ ks) w cur s rows' := by
  have key : ∀ (i : Nat) (r r' : List C) (ids' : List Nat), rows[i]? = some r → prL false h ks r = some (r', ids') → (∀ b ∈ ids', b ∈ all) → r'.length = s ∧ ∀ (j : Nat) (c : C), r'[j]? = some c → ∃ u, cur[i * s + j]? = some u ∧ C.rep L' (mapK μ ks) w c u := by
    intro i r r' ids' hi hp hb
    have h1 := hl.row hi
    have h2 := prL_sound hS hH hp hb h1
    have h3 := prL_len hp
    have h4 := (hl i r hi).1
    refine ⟨by omega, fun j c hj => ?_⟩
    obtain ⟨u, hu, hv⟩ := C.repl_get h2 j c hj
    rw [List.getElem?_take] at hu
    split at hu
    · rw [List.getElem?_drop, Array.getElem?_toList] at hu
      exact ⟨u, hu, hv⟩
    · cases hu
  unfold prR at e
  split at e
  · rename_i ht
    simp only [Option.some.injEq, Prod.mk.injEq] at e
    rw [← e.1]
    intro i r hi
    have h1 := List.all_eq_true.1 ht r (List.mem_of_getElem? hi)
    exact key i r r [] hi (by simp only [prL, h1, if_true]) (by simp)
  · obtain ⟨e1, e2⟩ := prRs_get e
    intro i r' hi
    obtain ⟨r, i1, q1, q2, q3⟩ := e2 i r' hi
    exact key i r r' i1 q1 q2 (fun b hb => hids b (q3 b hb))

/-- the outcome of a handing over -/
structure Handed (X μ : List Nat) (h : List Blk) (w : World) (ks : List Nat) (vs' : List AV) (us : List Value) (K h1 : List Blk) : Prop where
  sim : Sim X μ h1 w
  stp : Stp μ h w μ h1 w
  nodup : ks.Nodup
  len : h1.length = h.length
  klen : K.length = ks.length
  blk : ∀ (i b : Nat), ks[i]? = some b → ∃ k k', h1[b]? = some k ∧ k.st.known = true ∧ K[i]? = some k' ∧ k'.st = k.st
  out : ∀ X' : List Nat, (∀ x ∈ X', x ∈ X ++ alive μ h1) → (∀ g ∈ mapK μ ks, g ∉ X') → Sim X' (mapK μ ks) K w ∧ AV.repl (X' ++ alive (mapK μ ks) K) (mapK μ ks) w vs' us

theorem prep_sound {z : Bool} {ks : List Nat} {vs vs' : List AV} {K h1 : List Blk} {us : List Value} (hS : Sim X μ h w) (hp : prep z h ks vs = some (vs', K, h1)) (hr : AV.repl (X ++ alive μ h) μ w vs us) : Handed X μ h w ks vs' us K h1 := by
  unfold prep at hp
  split at hp
  · rename_i vs1 i K1 j hv hh
    split at hp
    · rename_i hc
      simp only [Option.some.injEq, Prod.mk.injEq] at hp
      obtain ⟨rfl, rfl, rfl⟩ := hp
      obtain ⟨hap, hnd⟩ := hc
      have hnd := nodupB_spec hnd
      obtain ⟨hk2, hkl, hkb⟩ := prH_spec hh
      have hk1 := prVs_known _ _ _ hv
      obtain ⟨s1, s2, s3, s4⟩ := frzAt_spec (i ++ j) hS (hk1.append hk2)
      have hnot : ∀ b ∈ i ++ j, b ∉ ks := fun b hb hm => by
        have := List.all_eq_true.1 hap b hb
        simp [hm] at this
      have hks : ∀ (m b : Nat), ks[m]? = some b → ∃ k, h[b]? = some k ∧ (frzAt (i ++ j) h)[b]? = some k ∧ k.st.known = true := fun m b hm => by
        obtain ⟨k, rows, j', p1, p2, p3, p4, p5⟩ := hkb m b hm
        obtain ⟨k', e1, _, _, e4⟩ := s4 b k p1
        have := e4 (fun hx => hnot b hx (List.mem_of_getElem? hm))
        rw [this] at e1
        exact ⟨k, p1, e1, p2⟩
      refine ⟨s1, s2, hnd, s3, hkl, fun m b hm => ?_, fun X' hX1 hX2 => ?_⟩
      · obtain ⟨k, rows, j', p1, p2, p3, p4, p5⟩ := hkb m b hm
        obtain ⟨k2, e1, e2, e3⟩ := hks m b hm
        rw [p1] at e1; cases e1
        exact ⟨k, _, e2, p2, p4, rfl⟩
      · have hget : ∀ (m g : Nat), (mapK μ ks)[m]? = some g → ∃ b k, ks[m]? = some b ∧ μ[b]? = some g ∧ (frzAt (i ++ j) h)[b]? = some k ∧ h[b]? = some k ∧ k.st.known = true := fun m g hm => by
          simp only [mapK, List.getElem?_map, Option.map_eq_some_iff] at hm
          obtain ⟨b, hb, hg⟩ := hm
          obtain ⟨k, e0, e1, e2⟩ := hks m b hb
          obtain ⟨g', hg', _⟩ := hS.get e0
          rw [List.getD_eq_getElem?_getD, hg', Option.getD_some] at hg
          subst hg
          exact ⟨b, k, hb, hg', e1, e0, e2⟩
        have hal : ∀ x, x ∈ alive (mapK μ ks) K1 → x ∈ alive μ (frzAt (i ++ j) h) := fun x hx => by
          obtain ⟨m, q, h1, h2, h3⟩ := mem_alive.1 hx
          obtain ⟨b, k, hb, hg, e1, e0, e2⟩ := hget m x h1
          obtain ⟨k', rows, j', p1, p2, p3, p4, p5⟩ := hkb m b hb
          rw [e0] at p1; cases p1
          rw [p4] at h2; cases h2
          exact mem_alive.2 ⟨b, k, hg, e1, h3⟩
        have hL1 : ∀ x, x ∈ X' ++ alive (mapK μ ks) K1 → x ∈ X ++ alive μ (frzAt (i ++ j) h) := fun x hx => by
          rcases List.mem_append.1 hx with hx | hx
          · exact hX1 x hx
          · exact List.mem_append.2 (.inr (hal x hx))
        have hL0 : ∀ x, x ∈ X' ++ alive (mapK μ ks) K1 → x ∈ X ++ alive μ h := fun x hx => by
          rcases List.mem_append.1 (hL1 x hx) with hx | hx
          · exact List.mem_append.2 (.inl hx)
          · exact List.mem_append.2 (.inr (s2.old x hx (s1.aliveLt hx)))
        have hids : ∀ b ∈ i ++ j, ∀ g, μ[b]? = some g → g ∉ X' ++ alive (mapK μ ks) K1 := fun b hb g hg hx => by
          obtain ⟨k, e1, e2⟩ := (hk1.append hk2) b hb
          rcases List.mem_append.1 (hL1 g hx) with hx | hx
          · exact hS.out b k g e1 e2 hg hx
          · obtain ⟨m, q, h1, h2, h3⟩ := mem_alive.1 hx
            obtain ⟨k', f1, f2, f3, _⟩ := s4 b k e1
            by_cases hm : m = b
            · subst hm
              rw [f1] at h2; cases h2
              rw [f3 hb] at h3; cases h3
            · exact s1.inj m b q k' g hm h2 f1 h3 (by rw [f2.2.2.2.1]; exact e2) h1 hg
        have hH : Hand X' X μ h (X' ++ alive (mapK μ ks) K1) ks (i ++ j) := ⟨hL0, hids⟩
        refine ⟨⟨by simp [mapK, hkl], ?_, ?_, ?_, ?_, ?_⟩, prVs_sound hS hH vs vs1 i us hv (fun b hb => by simp [hb]) hr⟩
        · intro g hg
          obtain ⟨m, hm⟩ := List.getElem?_of_mem hg
          obtain ⟨b, k, _, hb, _⟩ := hget m g hm
          exact hS.lt g (List.mem_of_getElem? hb)
        · intro g hg
          rcases List.mem_append.1 (hX1 g hg) with hx | hx
          · exact hS.xlt g hx
          · exact s1.aliveLt hx
        · intro m q g _ _ hg
          exact hX2 g (List.mem_of_getElem? hg)
        · intro m1 m2 q q' g hne h1 h2 h3 h4 hg1 hg2
          obtain ⟨b1, k1, c1, c2, c3, c4, c5⟩ := hget m1 g hg1
          obtain ⟨b2, k2, d1, d2, d3, d4, d5⟩ := hget m2 g hg2
          obtain ⟨k', rows, j', p1, p2, p3, p4, p5⟩ := hkb m1 b1 c1
          rw [c4] at p1; cases p1
          rw [p4] at h1; cases h1
          have hb12 : b1 ≠ b2 := fun e => hne (by
            have l1 := (List.getElem?_eq_some_iff.1 c1); have l2 := (List.getElem?_eq_some_iff.1 d1)
            obtain ⟨l1, v1⟩ := l1; obtain ⟨l2, v2⟩ := l2
            have hpw := List.pairwise_iff_getElem.1 hnd
            rcases Nat.lt_trichotomy m1 m2 with hlt | heq | hgt
            · exact absurd (by rw [v1, v2, e]) (hpw m1 m2 l1 l2 hlt)
            · exact heq
            · exact absurd (by rw [v1, v2, e]) (hpw m2 m1 l2 l1 hgt))
          exact s1.inj b1 b2 k1 k2 g hb12 c3 d3 h3 d5 c2 d2
        · intro m q g h1 h2 hg
          obtain ⟨b, k, c1, c2, c3, c4, c5⟩ := hget m g hg
          obtain ⟨k', rows, j', p1, p2, p3, p4, p5⟩ := hkb m b c1
          rw [c4] at p1; cases p1
          rw [p4] at h1; cases h1
          obtain ⟨cur, hc, hl⟩ := hS.blk b k g c4 c5 c2
          refine ⟨cur, hc, ?_⟩
          exact prR_sound hS hH p3 (fun x hx => by simp [p5 x hx]) hl
    · cases hp
  · cases hp
end
end Go.Proofs.Sh
