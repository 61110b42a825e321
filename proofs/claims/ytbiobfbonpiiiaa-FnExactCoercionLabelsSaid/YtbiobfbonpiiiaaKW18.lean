/- Texts of the proof, one behind another. -/
import Derived.Test.YtbiobfbonpiiiaaKW15
import Derived.Test.YtbiobfbonpiiiaaKW16
import Derived.Test.YtbiobfbonpiiiaaKW17
set_option linter.unusedSimpArgs false
set_option linter.unusedVariables false
/- Owned trees: slices that grow, in a state of which the first blocks are known. -/
namespace Go.Proofs.Sh
open Go.RowKit

@[go_sem] theorem app_len {α : Type} (T : List α) (x : α) : (T ++ [x])[T.length]? = some x := by simp
@[go_sem] theorem app_len1 {α : Type} (T : List α) (x y : α) : (T ++ [x, y])[T.length]? = some x := by simp
@[go_sem] theorem app_len2 {α : Type} (T : List α) (x y : α) : (T ++ [x, y])[T.length + 1]? = some y := by simp
@[go_sem] theorem set_len {α : Type} (T : List α) (x y : α) : (T ++ [x]).set T.length y = T ++ [y] := by simp
@[go_sem] theorem set_len1 {α : Type} (T : List α) (x y z : α) : (T ++ [x, z]).set T.length y = T ++ [y, z] := by simp
@[go_sem] theorem set_len2 {α : Type} (T : List α) (x y z : α) : (T ++ [x, z]).set (T.length + 1) y = T ++ [x, y] := by simp
@[go_sem] theorem app_lenA {α : Type} (T : List α) (x y : α) : (T ++ [x] ++ [y])[T.length]? = some x := by simp
@[go_sem] theorem app_lenB {α : Type} (T : List α) (x y : α) : (T ++ [x] ++ [y])[T.length + 1]? = some y := by simp
@[go_sem] theorem set_lenA {α : Type} (T : List α) (x y z : α) : (T ++ [x] ++ [y]).set T.length z = T ++ [z] ++ [y] := by simp
@[go_sem] theorem set_lenB {α : Type} (T : List α) (x y z : α) : (T ++ [x] ++ [y]).set (T.length + 1) z = T ++ [x] ++ [z] := by simp
theorem get_app {α : Type} {T : List α} {j : Nat} {x : α} (h : T[j]? = some x) (U : List α) : (T ++ U)[j]? = some x := by
  rw [List.getElem?_append_left (List.getElem?_eq_some_iff.1 h).1]; exact h
theorem pre_split (pre : List Blk) {T h' : List Blk} (h1 : (pre ++ T).length ≤ h'.length) (h2 : ∀ b, b < (pre ++ T).length → h'[b]? = (pre ++ T)[b]?) : ∃ T', h' = pre ++ T' ∧ T.length ≤ T'.length ∧ ∀ i, i < T.length → T'[i]? = T[i]? := by
  refine ⟨h'.drop pre.length, ?_, by simp only [List.length_append, List.length_drop] at *; omega, fun i hi => ?_⟩
  · apply List.ext_getElem?
    intro i
    by_cases hi : i < pre.length
    · rw [h2 i (by simp; omega), List.getElem?_append_left hi, List.getElem?_append_left hi]
    · rw [List.getElem?_append_right (by omega), List.getElem?_drop]; congr 1; omega
  · rw [List.getElem?_drop, h2 _ (by simp; omega), List.getElem?_append_right (by omega)]; congr 1; omega
theorem pre1 {a : Blk} {T h' : List Blk} (h1 : (a :: T).length ≤ h'.length) (h2 : ∀ i, i < (a :: T).length → h'[i]? = (a :: T)[i]?) : ∃ T', h' = a :: T' ∧ T.length ≤ T'.length ∧ ∀ i, i < T.length → T'[i]? = T[i]? := pre_split [a] h1 h2
theorem pre3 {a b c : Blk} {T h' : List Blk} (h1 : (a :: b :: c :: T).length ≤ h'.length) (h2 : ∀ i, i < (a :: b :: c :: T).length → h'[i]? = (a :: b :: c :: T)[i]?) : ∃ T', h' = a :: b :: c :: T' ∧ T.length ≤ T'.length ∧ ∀ i, i < T.length → T'[i]? = T[i]? := pre_split [a, b, c] h1 h2

/-- the slice cell c: rows R, owned, in T, which lies behind p blocks -/
def Grown (s ty p : Nat) (R : List (List C)) (c : C) (T : List Blk) : Prop :=
  (R = [] ∧ c = .sc (.slice none 0 0)) ∨ ∃ j rows d js, 0 < R.length ∧ c = .row s (j + p) R.length ∧ T[j]? = some ⟨s, ty, .mut, rows⟩ ∧ rows.length = R.length ∧ rowsLen s rows = true ∧ (∀ pre : List Blk, pre.length = p → ow (pre ++ T) d c = some (.sl R, js)) ∧ js.Nodup ∧ ∀ b ∈ js, p ≤ b
theorem ow_pre {pre pre' T T' : List Blk} {d : Nat} {c c' : C} {ids : List Nat} (hp : pre.length = pre'.length) (hf : ∀ i, i < T.length → T'[i]? = T[i]?) (e : ow (pre ++ T) d c = some (c', ids)) (hge : ∀ b ∈ ids, pre.length ≤ b) : ow (pre' ++ T') d c = some (c', ids) :=
  ow_frame e (fun b hb => by
    have h1 := hge b hb
    have h2 := (ow_mut e b hb).lt
    rw [List.length_append] at h2
    rw [List.getElem?_append_right (by omega), List.getElem?_append_right h1, hf _ (by omega)]
    congr 1; omega)
theorem owL_pre {pre pre' T T' : List Blk} {d : Nat} {c c' : List C} {ids : List Nat} (hp : pre.length = pre'.length) (hf : ∀ i, i < T.length → T'[i]? = T[i]?) (e : fzL (ow (pre ++ T) d) c = some (c', ids)) (hge : ∀ b ∈ ids, pre.length ≤ b) : fzL (ow (pre' ++ T') d) c = some (c', ids) :=
  owL_frame e (fun b hb => by
    have h1 := hge b hb
    have h2 := (owL_mut e b hb).lt
    rw [List.length_append] at h2
    rw [List.getElem?_append_right (by omega), List.getElem?_append_right h1, hf _ (by omega)]
    congr 1; omega)
/-- one more row is appended -/
theorem Grown.more {s ty p d : Nat} {R : List (List C)} {c : C} {T T' pre : List Blk} {cs enc : List C} {ids : List Nat} (hG : Grown s ty p R c T) (hp : pre.length = p) (hT : T.length ≤ T'.length) (hf : ∀ i, i < T.length → T'[i]? = T[i]?)
    (e : fzL (ow (pre ++ T') d) cs = some (enc, ids)) (hl : cs.length = s) (hn : ids.Nodup) (hge : ∀ b ∈ ids, p + T.length ≤ b) :
    (c = .sc (.slice none 0 0) ∧ R = [] ∧ ∀ y, Grown s ty p (R ++ [enc]) (.row s (T'.length + 1 + p) 1) (T' ++ [y] ++ [⟨s, ty, .mut, [cs]⟩])) ∨
    ∃ j rows, c = .row s (j + p) R.length ∧ 0 < R.length ∧ T'[j]? = some ⟨s, ty, .mut, rows⟩ ∧ rows.length = R.length ∧ rowsLen s rows = true ∧ ∀ y, Grown s ty p (R ++ [enc]) (.row s (T'.length + 1 + p) (R.length + 1)) ((T' ++ [y]).set j ⟨s, ty, .dead, []⟩ ++ [⟨s, ty, .mut, rows ++ [cs]⟩]) := by
  have hgp : ∀ b ∈ ids, pre.length ≤ b := fun b hb => by have := hge b hb; omega
  rcases hG with ⟨hR, hc⟩ | ⟨j, rows, d0, js, hpos, hc, hj, hrl, hrs, how, hnd, hjs⟩
  · subst hR hc
    refine .inl ⟨rfl, rfl, fun y => .inr ⟨T'.length + 1, [cs], d + 1, (T'.length + 1 + p) :: ids, by simp, rfl, by rw [List.getElem?_append_right (by simp)]; simp, rfl, by simp [rowsLen, hl], fun pre' hp' => ?_, ?_, ?_⟩⟩
    · have e' := owL_pre (pre' := pre') (T' := T') (by omega) (fun _ _ => rfl) e hgp
      have := (own_grow0 (ty := ty) (y := y) e' hl hn (fun b hb => (owL_mut e' b hb).lt)).1
      rw [List.length_append, hp', show p + T'.length + 1 = T'.length + 1 + p from by omega] at this
      simpa only [List.append_assoc, List.nil_append] using this
    · refine List.nodup_cons.2 ⟨fun hm => ?_, hn⟩
      have := (owL_mut e _ hm).lt
      rw [List.length_append] at this; omega
    · intro b hb
      rcases List.mem_cons.1 hb with rfl | hb
      · omega
      · have := hge b hb; omega
  · subst hc
    have hjl := (List.getElem?_eq_some_iff.1 hj).1
    have hj' : T'[j]? = some ⟨s, ty, .mut, rows⟩ := by rw [hf j hjl]; exact hj
    refine .inr ⟨j, rows, rfl, hpos, hj', hrl, hrs, fun y => ?_⟩
    have key : ∀ pre' : List Blk, pre'.length = p → ∃ d3 is, ow (pre' ++ ((T' ++ [y]).set j ⟨s, ty, .dead, []⟩ ++ [⟨s, ty, .mut, rows ++ [cs]⟩])) d3 (.row s (T'.length + 1 + p) (R.length + 1)) = some (.sl (R ++ [enc]), (T'.length + 1 + p) :: is) ∧ ((T'.length + 1 + p) :: is).Nodup ∧ ∀ x ∈ is, x ∈ js ++ ids := fun pre' hp' => by
      have e0 := ow_pre (pre' := pre') (T' := T') (by omega) hf (how pre hp) (fun b hb => by have := hjs b hb; omega)
      have e1 := owL_pre (pre' := pre') (T' := T') (by omega) (fun _ _ => rfl) e hgp
      have hkk : (pre' ++ T')[j + p]? = some ⟨s, ty, .mut, rows⟩ := by rw [List.getElem?_append_right (by omega), ← hj']; congr 1; omega
      obtain ⟨d3, is, h1, h2, h3⟩ := own_grow (ty := ty) (y := y) e0 hkk e1 hl (by
        refine List.nodup_append.2 ⟨hnd, hn, fun a ha b hb hab => ?_⟩
        subst hab
        have h1 := (ow_mut (how pre hp) a ha).lt
        rw [List.length_append] at h1
        have := hge a hb; omega)
      rw [List.length_append, hp', show p + T'.length + 1 = T'.length + 1 + p from by omega] at h1 h2
      refine ⟨d3, is, ?_, h2, h3⟩
      rw [List.append_assoc, List.set_append_right _ _ (by omega), show j + p - pre'.length = j from by omega, List.append_assoc] at h1
      exact h1
    obtain ⟨d3, is, h1, h2, h3⟩ := key pre hp
    have hise : ∀ x ∈ (T'.length + 1 + p) :: is, p ≤ x := fun x hx => by
      rcases List.mem_cons.1 hx with rfl | hx
      · omega
      · rcases List.mem_append.1 (h3 x hx) with hx | hx
        · exact hjs x hx
        · have := hge x hx; omega
    refine .inr ⟨T'.length + 1, rows ++ [cs], d3, _, by simp, by simp, by rw [List.getElem?_append_right (by simp)]; simp, by simp [hrl], by rw [rowsLen_append, hrs]; simp [rowsLen, hl], fun pre' hp' => ?_, h2, hise⟩
    have h4 := ow_pre (pre' := pre') (T' := (T' ++ [y]).set j ⟨s, ty, .dead, []⟩ ++ [⟨s, ty, .mut, rows ++ [cs]⟩]) (by omega) (fun _ _ => rfl) h1 (fun b hb => by have := hise b hb; omega)
    simpa using h4

/-- a struct's cells are handed back with the blocks of their trees -/
theorem ret_ownK {P : Program} {rs : List ResultVar} {s : ASt} {d : Nat} {cs enc : List C} {ids : List Nat} {F : List C → AV} (h : aresult P s rs = some (F cs)) (e : fzL (ow s.h d) cs = some (enc, ids)) (hn : ids.Nodup) (hF : ∀ cs', prL false s.h ids cs = some (cs', []) → prVs false s.h ids [F cs] = some ([F cs'], [])) : ARet P rs 0 (OwnK enc F) s := by
  obtain ⟨r', H', h1, q1, q2⟩ := own_ret e hn hF
  exact ret_own ids h (by simpa using q1) q2
theorem prVs_agg {h : List Blk} {ids : List Nat} {cs cs' : List C} (e : prL false h ids cs = some (cs', [])) : prVs false h ids [.agg cs] = some ([.agg cs'], []) := by simp only [prVs, prV, e, List.append_nil]
theorem ren_agg (cs : List C) (g : Nat → Nat) : (AV.agg cs).ren g = .agg (cs.map (C.ren g)) := by simp only [AV.ren, renA_map]
/-- the whole of a slice that has grown -/
theorem Grown.ow {s ty p : Nat} {R : List (List C)} {c : C} {T : List Blk} (hG : Grown s ty p R c T) : ∃ d js, (∀ pre : List Blk, pre.length = p → ow (pre ++ T) d c = some (.sl R, js)) ∧ js.Nodup ∧ ∀ b ∈ js, p ≤ b := by
  rcases hG with ⟨rfl, rfl⟩ | ⟨j, rows, d0, js, hpos, rfl, hj, hrl, hrs, how, hnd, hjs⟩
  · exact ⟨0, [], fun _ _ => rfl, List.nodup_nil, by simp⟩
  · exact ⟨d0, js, how, hnd, hjs⟩
theorem ow_int {h : List Blk} {d : Nat} {k : IntKind} {n : Int} : Sh.ow h d (.sc (.int k n)) = some (.sc (.int k n), []) := by rw [ow_leaf (by simp)]; rfl
/-- rows of which those of R are there, owned, in T, which lies behind p blocks; m more are as z says -/
def Filled (s p : Nat) (R : List (List C)) (m : Nat) (z : List C) (rows : List (List C)) (T : List Blk) : Prop :=
  ∃ rs d js, rows = rs ++ List.replicate m z ∧ rowsLen s rs = true ∧ rs.length = R.length ∧ (∀ pre : List Blk, pre.length = p → fzRows (ow (pre ++ T) d) rs = some (R, js)) ∧ js.Nodup ∧ ∀ b ∈ js, p ≤ b
theorem Filled.zero {s p m : Nat} {z : List C} : Filled s p [] m z (List.replicate m z) [] := ⟨[], 0, [], rfl, rfl, rfl, fun _ _ => rfl, List.nodup_nil, by simp⟩
theorem Filled.get {s p m : Nat} {R : List (List C)} {z : List C} {rows : List (List C)} {T : List Blk} (h : Filled s p R (m + 1) z rows T) : rows[R.length]? = some z := by
  obtain ⟨rs, d, js, rfl, h2, h3, h4, h5, h6⟩ := h
  rw [← h3, List.getElem?_append_right (Nat.le_refl _)]
  simp
theorem owR_pre {pre pre' T T' : List Blk} {d : Nat} {c c' : List (List C)} {ids : List Nat} (hp : pre.length = pre'.length) (hf : ∀ i, i < T.length → T'[i]? = T[i]?) (e : fzRows (ow (pre ++ T) d) c = some (c', ids)) (hge : ∀ b ∈ ids, pre.length ≤ b) : fzRows (ow (pre' ++ T') d) c = some (c', ids) :=
  owR_frame e (fun b hb => by
    have h1 := hge b hb
    have h2 := (owR_mut e b hb).lt
    rw [List.length_append] at h2
    rw [List.getElem?_append_right (by omega), List.getElem?_append_right h1, hf _ (by omega)]
    congr 1; omega)
theorem Filled.next {s p m d : Nat} {R : List (List C)} {z : List C} {rows : List (List C)} {T T' pre : List Blk} {cs enc : List C} {ids : List Nat} (h : Filled s p R (m + 1) z rows T) (hp : pre.length = p) (hf : ∀ i, i < T.length → T'[i]? = T[i]?)
    (e : fzL (ow (pre ++ T') d) cs = some (enc, ids)) (hl : cs.length = s) (hn : ids.Nodup) (hge : ∀ b ∈ ids, p + T.length ≤ b) : Filled s p (R ++ [enc]) m z (rows.set R.length cs) T' := by
  obtain ⟨rs, d0, js, rfl, h2, h3, h4, h5, h6⟩ := h
  refine ⟨rs ++ [cs], max d0 d, js ++ ids, ?_, by rw [rowsLen_append, h2]; simp [rowsLen, hl], by simp [h3], fun pre' hp' => ?_, ?_, ?_⟩
  · rw [← h3, List.set_append_right _ _ (Nat.le_refl _)]
    simp [List.replicate_succ]
  · refine fzRows_app (owR_le (Nat.le_max_left _ _) (owR_pre (pre := pre') (by omega) hf (h4 pre' hp') (fun b hb => by have := h6 b hb; omega))) ?_
    have := owL_le (Nat.le_max_right d0 d) (owL_pre (pre' := pre') (T' := T') (by omega) (fun _ _ => rfl) e (fun b hb => by have := hge b hb; omega))
    simp only [fzRows, this, List.append_nil]
  · refine List.nodup_append.2 ⟨h5, hn, fun a ha b hb hab => ?_⟩
    subst hab
    have h1 := (owR_mut (h4 pre hp) a ha).lt
    rw [List.length_append] at h1
    have := hge a hb; omega
  · intro b hb
    rcases List.mem_append.1 hb with hb | hb
    · exact h6 b hb
    · have := hge b hb; omega
theorem Filled.all {s p b n : Nat} {R : List (List C)} {z : List C} {rows : List (List C)} {T pre : List Blk} {k : Blk} (h : Filled s p R 0 z rows T) (hp : pre.length = p) (hb : b < p) (hk : pre[b]? = some k) (hr : k.rows = rows) (hs : k.s = s) (hm : k.st.isMut = true) (hn : n = R.length) : ∃ d js, ow (pre ++ T) d (.row s b n) = some (.sl R, b :: js) ∧ (b :: js).Nodup := by
  obtain ⟨rs, d0, js, rfl, h2, h3, h4, h5, h6⟩ := h
  simp only [List.replicate_zero, List.append_nil] at hr
  refine ⟨d0 + 1, js, ow_row_of (k := k) (by rw [List.getElem?_append_left (by omega)]; exact hk) hm (by rw [hr, h3, hn]) hs.symm (by rw [hr]; exact h2) (by rw [hr]; exact h4 pre hp), List.nodup_cons.2 ⟨fun hm => ?_, h5⟩⟩
  have := h6 b hm; omega

/-- one cell as a value -/
def one1 (cs : List C) : AV := .one (cs.getD 0 .top)
theorem one1_flat (cs : List C) (h : cs.all C.flat = true) : (one1 cs).flat = true := by
  cases cs with
  | nil => rfl
  | cons c cs => simp only [List.all_cons, Bool.and_eq_true] at h; exact h.1
theorem one1_ren (cs : List C) (g : Nat → Nat) : (one1 cs).ren g = one1 (cs.map (C.ren g)) := by
  cases cs <;> rfl
theorem prVs_one1 {h : List Blk} {ids : List Nat} {c : C} {d : Nat} {enc : List C} (e : fzL (Sh.ow h d) [c] = some (enc, ids)) (cs' : List C) (ep : prL false h ids [c] = some (cs', [])) : prVs false h ids [one1 [c]] = some ([one1 cs'], []) := by
  obtain ⟨x, i, h1, h2⟩ : ∃ x i, Sh.ow h d c = some (x, i) ∧ i = ids := by
    simp only [fzL] at e
    split at e
    · rename_i c1 i c2 j h1 h2
      simp only [Option.some.injEq, Prod.mk.injEq] at e h2
      exact ⟨c1, i, h1, by rw [← e.2, ← h2.2]; simp⟩
    · cases e
  subst h2
  have h3 := prC_ow (ks := i) h1 (fun _ h => h)
  have h4 := prL_ow e (fun _ h => h)
  rw [h4] at ep
  simp only [Option.some.injEq, Prod.mk.injEq, and_true] at ep
  subst ep
  simp only [prVs, prV, one1, List.getD_cons_zero, h3, List.append_nil, List.map_cons, List.map_nil]
theorem owL_one {h : List Blk} {d : Nat} {c c' : C} {js : List Nat} (e : Sh.ow h d c = some (c', js)) : fzL (Sh.ow h d) [c] = some ([c'], js) := by
  simp only [fzL, e, List.append_nil]
end Go.Proofs.Sh
/- Owned types and terms. -/
namespace Go.Proofs.Sh
open Go.RowKit Go.Proofs.Grad

theorem ow_sc {h : List Blk} {d : Nat} {c : C} {v : Value} {ids : List Nat} (hv : v ≠ .slice none 0 0) (e : ow h d c = some (.sc v, ids)) : c = .sc v ∧ ids = [] := by
  cases c with
  | row s b n => obtain ⟨_, _, _, _, _, _, _, _, _, _, _, h, _⟩ := ow_row e; cases h
  | _ =>
    rw [ow_leaf (by simp)] at e
    obtain ⟨rfl, ⟨h1, h2⟩ | ⟨v, h1, _, h2⟩ | ⟨h1, h2⟩⟩ := leaf_cases e
    · cases h2
    · cases h2; exact ⟨h1, rfl⟩
    · cases h2
theorem fzL_cons {f : C → Option (C × List Nat)} {cs : List C} {x : C} {xs : List C} {ids : List Nat} (e : fzL f cs = some (x :: xs, ids)) : ∃ c cs' i j, cs = c :: cs' ∧ f c = some (x, i) ∧ fzL f cs' = some (xs, j) ∧ ids = i ++ j := by
  cases cs with
  | nil => simp [fzL] at e
  | cons c cs' =>
    simp only [fzL] at e
    split at e
    · rename_i c1 i c2 j h1 h2
      simp only [Option.some.injEq, Prod.mk.injEq, List.cons.injEq] at e
      obtain ⟨⟨rfl, rfl⟩, rfl⟩ := e
      exact ⟨c, cs', i, j, rfl, h1, h2, rfl⟩
    · cases e
theorem fzL_nil {f : C → Option (C × List Nat)} {cs : List C} {ids : List Nat} (e : fzL f cs = some ([], ids)) : cs = [] ∧ ids = [] := by
  cases cs with
  | nil => simp only [fzL, Option.some.injEq, Prod.mk.injEq] at e; exact ⟨rfl, e.2.symm⟩
  | cons c cs' =>
    simp only [fzL] at e
    split at e
    · simp at e
    · cases e
/-- a term's cells: the cells of its types' and its own operands -/
def teO (t : Tm) (c1 c2 c3 : C) : List C := [.sc (.int .i64 t.kind), .sc (.string t.name), .sc (.int .i64 t.num), .sc (.int .i64 t.type.kind), c1, .sc (.int .i64 t.frm.kind), c2, .sc (.int .i64 t.label), c3]
@[go_sem] theorem teO_length (t : Tm) (c1 c2 c3 : C) : (teO t c1 c2 c3).length = 9 := rfl
end Go.Proofs.Sh
namespace Go.Proofs.Grad
end Go.Proofs.Grad
namespace Go.Proofs.Sh
open Go.RowKit Go.Proofs.Grad
end Go.Proofs.Sh
/- Owned trees: rows changed where they lie. -/
namespace Go.Proofs.Sh
def dgs (k : Nat) (out : ByteArray) : ByteArray := if h : k = 0 then out else dgs (k / 10) (bytesOf [((48 + k % 10 : Nat) : Int)] ++ out)
termination_by k
decreasing_by omega
def mkT (k : Nat) : ByteArray := ⟨#[109]⟩ ++ dgs k ByteArray.empty
end Go.Proofs.Sh
namespace Go.Proofs.Sh
open Go.RowKit Go.Proofs.Grad

/-- a row of an owned slice, and what is so when it has been changed -/
theorem row_upd {h : List Blk} {d s b n i : Nat} {R : List (List C)} {js : List Nat} (h0 : ow h (d + 1) (.row s b n) = some (.sl R, b :: js)) (hn : (b :: js).Nodup) (hi : i < R.length) :
    ∃ ty rows r E pre is post, h[b]? = some ⟨s, ty, .mut, rows⟩ ∧ rows.length = n ∧ R.length = n ∧ rows[i]? = some r ∧ R[i]? = some E ∧ r.length = s ∧ fzL (ow h d) r = some (E, is) ∧ js = pre ++ (is ++ post) ∧ is.Nodup ∧ b ∉ is ∧ (∀ x ∈ pre ++ post, x ∉ is ∧ x ≠ b) ∧
      (∀ h2 r' E', r'.length = s → h2[b]? = some ⟨s, ty, .mut, rows.set i r'⟩ → fzL (ow h2 d) r' = some (E', is) → (∀ x ∈ pre ++ post, h2[x]? = h[x]?) → ow h2 (d + 1) (.row s b n) = some (.sl (R.set i E'), b :: js)) := by
  obtain ⟨d', k, R', js', e, h1, h2, h3, h4, h5, h6, h7, h8⟩ := ow_row h0
  cases e; cases h7; cases h8
  obtain ⟨ks, kty, kst, rows⟩ := k
  simp only at h2 h3 h4 h5 h6
  have hst : kst = .mut := by cases kst <;> simp [St.isMut] at h2 ⊢
  subst hst h4
  have hl := fzRows_len h6
  have hir : i < rows.length := by omega
  obtain ⟨E, pre, is, post, q1, q2, q3, q4, q5⟩ := fzRows_split h6 (List.getElem?_eq_getElem hir)
  obtain ⟨hb, hjs⟩ := List.nodup_cons.1 hn
  have hjs' := hjs
  rw [q3] at hjs' hb
  obtain ⟨a1, a2, a3⟩ := List.nodup_append.1 hjs'
  obtain ⟨a4, a5, a6⟩ := List.nodup_append.1 a2
  refine ⟨kty, rows, rows[i], E, pre, is, post, h1, h3, by omega, List.getElem?_eq_getElem hir, q1, rowsLen_spec h5 _ (List.getElem_mem hir), q2, q3, a4, fun hm => hb (by simp [hm]), fun x hx => ⟨fun hm => ?_, fun e => hb (by subst e; rcases List.mem_append.1 hx with hx | hx <;> simp [hx])⟩, fun h2' r' E' hr hb he hx => ?_⟩
  · rcases List.mem_append.1 hx with hx | hx
    · exact a3 x hx x (by simp [hm]) rfl
    · exact a6 x hm x hx rfl
  · refine ow_row_of hb rfl (by simp [h3]) rfl ?_ ?_
    · simp only [rowsLen, List.all_eq_true, beq_iff_eq]
      intro x hx
      rcases List.mem_or_eq_of_mem_set hx with hx | rfl
      · exact rowsLen_spec h5 x hx
      · exact hr
    · rw [q3]
      exact fzRows_set hir hl (owR_frame q4 (fun x hx' => hx x (by simp [hx']))) he (owR_frame q5 (fun x hx' => hx x (by simp [hx'])))
theorem owR_lt {h : List Blk} {d s b n : Nat} {c' : C} {js : List Nat} (h0 : ow h d (.row s b n) = some (c', b :: js)) (x : Nat) (hx : x ∈ js) : x < h.length := (ow_mut h0 x (by simp [hx])).lt
end Go.Proofs.Sh
namespace Go.Proofs.Grad
mutual
def Ty.mark : Ty → Nat → Ty
  | .mk _ l, k => .mk (k : Int) (Ty.marks l (k + 1))
def Ty.marks : List Ty → Nat → List Ty
  | [], _ => []
  | t :: l, k => t.mark k :: Ty.marks l (k + t.size)
end
theorem Ty.mark_eq (t : Ty) (k : Nat) : t.mark k = .mk (k : Int) (Ty.marks t.kids (k + 1)) := by cases t; rfl
theorem Ty.marks_append : ∀ (l m : List Ty) (k : Nat), Ty.marks (l ++ m) k = Ty.marks l k ++ Ty.marks m (k + Ty.sizes l)
  | [], m, k => by simp [Ty.marks, Ty.sizes]
  | t :: l, m, k => by simp only [List.cons_append, Ty.marks, Ty.sizes, Ty.marks_append l m, Nat.add_assoc]
theorem Ty.marks_length : ∀ (l : List Ty) (k : Nat), (Ty.marks l k).length = l.length
  | [], _ => rfl
  | t :: l, k => by simp [Ty.marks, Ty.marks_length l]
theorem Ty.sizes_append : ∀ (l m : List Ty), Ty.sizes (l ++ m) = Ty.sizes l + Ty.sizes m
  | [], m => by simp [Ty.sizes]
  | t :: l, m => by simp only [List.cons_append, Ty.sizes, Ty.sizes_append l m, Nat.add_assoc]
/-- a list of which the first i are marked -/
def Ty.part (l : List Ty) (k i : Nat) : List Ty := Ty.marks (l.take i) k ++ l.drop i
theorem Ty.part_length (l : List Ty) (k i : Nat) : (Ty.part l k i).length = l.length := by
  simp only [Ty.part, List.length_append, Ty.marks_length, List.length_take, List.length_drop]; omega
end Go.Proofs.Grad
namespace Go.Proofs.Sh
open Go.RowKit Go.Proofs.Grad
theorem Ty.part_get {l : List Ty} {k i : Nat} (h : i < l.length) : (Ty.part l k i)[i]? = some (kid l i) := by
  have hl : (Ty.marks (l.take i) k).length = i := by rw [Ty.marks_length, List.length_take]; omega
  rw [Ty.part, List.getElem?_append_right (by omega), hl, Nat.sub_self, drop_kid h]; rfl
theorem Ty.part_set {l : List Ty} {k i : Nat} (h : i < l.length) : (Ty.part l k i).set i ((kid l i).mark (k + Ty.sizes (l.take i))) = Ty.part l k (i + 1) := by
  have hl : (Ty.marks (l.take i) k).length = i := by rw [Ty.marks_length, List.length_take]; omega
  rw [Ty.part, List.set_append_right _ _ (by omega), hl, Nat.sub_self, drop_kid h, Ty.part, take_kid h, Ty.marks_append]
  simp [Ty.marks]
theorem Ty.sizes_take {l : List Ty} {i : Nat} (h : i < l.length) : Ty.sizes (l.take (i + 1)) = Ty.sizes (l.take i) + (kid l i).size := by
  rw [take_kid h, Ty.sizes_append]; simp [Ty.sizes]
theorem Ty.sizes_take_le (l : List Ty) (i : Nat) : Ty.sizes (l.take i) ≤ Ty.sizes l := by
  have := Ty.sizes_append (l.take i) (l.drop i)
  rw [List.take_append_drop] at this; omega
end Go.Proofs.Sh
namespace Go.Proofs.Grad
open Go.Proofs.Sh
mutual
/-- how many marks a term takes -/
def Tm.mw : Tm → Nat
  | .mk _ _ _ t f _ l => 6 + (Ty.sizes t.kids + (Ty.sizes f.kids + Tm.mws l))
def Tm.mws : List Tm → Nat
  | [] => 0
  | t :: l => t.mw + Tm.mws l
end
mutual
def Tm.mark : Tm → Nat → Tm
  | .mk _ _ _ t f _ l, k => .mk (k : Int) (mkT (k + 1)) ((k + 2 : Nat) : Int) (.mk ((k + 3 : Nat) : Int) (Ty.marks t.kids (k + 4))) (.mk ((k + 4 + Ty.sizes t.kids : Nat) : Int) (Ty.marks f.kids (k + 4 + Ty.sizes t.kids + 1)))
      ((k + 4 + Ty.sizes t.kids + 1 + Ty.sizes f.kids : Nat) : Int) (Tm.marks l (k + 4 + Ty.sizes t.kids + 1 + Ty.sizes f.kids + 1))
def Tm.marks : List Tm → Nat → List Tm
  | [], _ => []
  | t :: l, k => t.mark k :: Tm.marks l (k + t.mw)
end
theorem Tm.mark_eq (t : Tm) (k : Nat) : t.mark k = .mk (k : Int) (mkT (k + 1)) ((k + 2 : Nat) : Int) (.mk ((k + 3 : Nat) : Int) (Ty.marks t.type.kids (k + 4))) (.mk ((k + 4 + Ty.sizes t.type.kids : Nat) : Int) (Ty.marks t.frm.kids (k + 4 + Ty.sizes t.type.kids + 1)))
      ((k + 4 + Ty.sizes t.type.kids + 1 + Ty.sizes t.frm.kids : Nat) : Int) (Tm.marks t.kids (k + 4 + Ty.sizes t.type.kids + 1 + Ty.sizes t.frm.kids + 1)) := by cases t; rfl
theorem Tm.marks_append : ∀ (l m : List Tm) (k : Nat), Tm.marks (l ++ m) k = Tm.marks l k ++ Tm.marks m (k + Tm.mws l)
  | [], m, k => by simp [Tm.marks, Tm.mws]
  | t :: l, m, k => by simp only [List.cons_append, Tm.marks, Tm.mws, Tm.marks_append l m, Nat.add_assoc]
theorem Tm.marks_length : ∀ (l : List Tm) (k : Nat), (Tm.marks l k).length = l.length
  | [], _ => rfl
  | t :: l, k => by simp [Tm.marks, Tm.marks_length l]
def Tm.part (l : List Tm) (k i : Nat) : List Tm := Tm.marks (l.take i) k ++ l.drop i
theorem Tm.part_length (l : List Tm) (k i : Nat) : (Tm.part l k i).length = l.length := by
  simp only [Tm.part, List.length_append, Tm.marks_length, List.length_take, List.length_drop]; omega
theorem Tm.part_get {l : List Tm} {k i : Nat} (h : i < l.length) : (Tm.part l k i)[i]? = some (teKid l i) := by
  have hl : (Tm.marks (l.take i) k).length = i := by rw [Tm.marks_length, List.length_take]; omega
  rw [Tm.part, List.getElem?_append_right (by omega), hl, Nat.sub_self, tedrop_kid h]; rfl
theorem Tm.part_set {l : List Tm} {k i : Nat} (h : i < l.length) : (Tm.part l k i).set i ((teKid l i).mark (k + Tm.mws (l.take i))) = Tm.part l k (i + 1) := by
  have hl : (Tm.marks (l.take i) k).length = i := by rw [Tm.marks_length, List.length_take]; omega
  rw [Tm.part, List.set_append_right _ _ (by omega), hl, Nat.sub_self, tedrop_kid h, Tm.part, tetake_kid h, Tm.marks_append]
  simp [Tm.marks]
end Go.Proofs.Grad
namespace Go.Proofs.Sh
open Go.RowKit Go.Proofs.Grad
end Go.Proofs.Sh
/- Owned trees behind known blocks: calls that make, read and mark them. -/
namespace Go.Proofs.Sh
open Go.RowKit Go.Proofs.Grad

/-- a struct's cells, a tree owned in T, which lies behind p blocks -/
structure OwnT (p : Nat) (T : List Blk) (cs enc : List C) (ids : List Nat) : Prop where
  nodup : ids.Nodup
  ge : ∀ b ∈ ids, p ≤ b
  own : ∃ d, ∀ pre : List Blk, pre.length = p → fzL (ow (pre ++ T) d) cs = some (enc, ids)
theorem OwnT.lt {p : Nat} {T : List Blk} {cs enc : List C} {ids : List Nat} (h : OwnT p T cs enc ids) : ∀ b ∈ ids, b < T.length + p := fun b hb => by
  obtain ⟨d, hd⟩ := h.own
  have := (owL_mut (hd (List.replicate p ⟨0, 0, .dead, []⟩) (by simp)) b hb).lt
  simp only [List.length_append, List.length_replicate] at this; omega
theorem OwnT.len {p : Nat} {T : List Blk} {cs enc : List C} {ids : List Nat} (h : OwnT p T cs enc ids) : cs.length = enc.length := by
  obtain ⟨d, hd⟩ := h.own
  exact (fzL_len (hd (List.replicate p ⟨0, 0, .dead, []⟩) (by simp))).symm
theorem OwnT.ext {p : Nat} {T T' : List Blk} {cs enc : List C} {ids : List Nat} (h : OwnT p T cs enc ids) (hf : ∀ i, i < T.length → i + p ∈ ids → T'[i]? = T[i]?) : OwnT p T' cs enc ids := by
  refine ⟨h.nodup, h.ge, ?_⟩
  obtain ⟨d, hd⟩ := h.own
  refine ⟨d, fun pre hp => owL_frame (hd pre hp) (fun b hb => ?_)⟩
  have h1 := h.ge b hb
  have h2 := h.lt b hb
  rw [List.getElem?_append_right (by omega), List.getElem?_append_right (by omega), hp]
  exact hf _ (by omega) (by rw [Nat.sub_add_cancel h1]; exact hb)
theorem OwnT.app {p : Nat} {T : List Blk} {cs enc : List C} {ids : List Nat} (h : OwnT p T cs enc ids) (X : List Blk) : OwnT p (T ++ X) cs enc ids := h.ext (fun i hi _ => List.getElem?_append_left hi)
theorem OwnT.lent {p : Nat} {T pre : List Blk} {cs enc : List C} {ids : List Nat} (h : OwnT p T cs enc ids) (hp : pre.length = p) : Lent (pre ++ T) (.agg cs) (.agg enc) ids := by
  obtain ⟨d, hd⟩ := h.own
  exact .agg (hd pre hp)

/-- a call that yields an owned tree -/
theorem acalls_ownT {P : Program} {f : FuncId} {args args' : List AV} {p : Nat} {pre T : List Blk} {is : List Nat} {enc : List C} {F : List C → AV} (hp : pre.length = p) (hz : Lents (pre ++ T) args args' is) (hc : ACl P f args' [] (OwnK enc F)) (hF : ∀ cs, cs.all C.flat = true → (F cs).flat = true) (hR : ∀ cs g, (F cs).ren g = F (cs.map (C.ren g))) :
    ACalls P f args (pre ++ T) [] (fun r h' => ∃ cs T' ids, r = F cs ∧ h' = pre ++ T' ∧ T.length ≤ T'.length ∧ (∀ i, i < T.length → T'[i]? = T[i]?) ∧ OwnT p T' cs enc ids ∧ ∀ b ∈ ids, T.length + p ≤ b) := by
  refine (acalls_own hz hc hF hR).mono ?_
  rintro r h' ⟨cs, d, ids, rfl, e1, e2, e3, e4, e5⟩
  obtain ⟨T', rfl, f1, f2⟩ := pre_split pre e4 e5
  have hge : ∀ b ∈ ids, T.length + p ≤ b := fun b hb => by have := (e3 b hb).1; simp only [List.length_append] at this; omega
  refine ⟨cs, T', ids, rfl, rfl, f1, f2, ⟨e2, fun b hb => by have := hge b hb; omega, d, fun pre' hp' => ?_⟩, hge⟩
  exact owL_pre (by omega) (fun _ _ => rfl) e1 (fun b hb => by have := hge b hb; omega)
/-- a call that reads owned trees -/
theorem acalls_readT {P : Program} {f : FuncId} {args args' : List AV} {h : List Blk} {is : List Nat} {v : Value} (hz : Lents h args args' is) (hc : AFn P f args' (.one (.sc v))) : ACalls P f args h [] (fun r' h' => r' = .one (.sc v) ∧ h' = h) :=
  acalls_read hz hc rfl (fun _ => rfl)
/-- a call that changes an owned tree -/
theorem acalls_changeT {P : Program} {f : FuncId} {args : List AV} {p : Nat} {pre T : List Blk} {cs enc : List C} {ids : List Nat} {v : Value} (hp : pre.length = p) (hge : ∀ b ∈ ids, p ≤ b) (hn : ids.Nodup)
    (hc : ∃ d, ACl P f args (pre ++ T) (fun r h' => r = .one (.sc v) ∧ fzL (ow h' d) cs = some (enc, ids) ∧ (pre ++ T).length ≤ h'.length ∧ ∀ b, b < (pre ++ T).length → b ∉ ids → h'[b]? = (pre ++ T)[b]?)) :
    ∃ ks, ACalls P f args (pre ++ T) ks (fun r h' => ∃ T', r = .one (.sc v) ∧ h' = pre ++ T' ∧ T.length ≤ T'.length ∧ (∀ i, i < T.length → i + p ∉ ids → T'[i]? = T[i]?) ∧ OwnT p T' cs enc ids) := by
  obtain ⟨d, hc⟩ := hc
  refine ⟨_, (acalls_full hc).mono ?_⟩
  rintro r h' ⟨rfl, e1, e2, e3⟩
  have hh : h' = pre ++ h'.drop pre.length := by
    apply List.ext_getElem?
    intro i
    by_cases hi : i < pre.length
    · rw [e3 i (by simp only [List.length_append]; omega) (fun hm => by have := hge i hm; omega), List.getElem?_append_left hi, List.getElem?_append_left hi]
    · rw [List.getElem?_append_right (by omega), List.getElem?_drop]; congr 1; omega
  refine ⟨h'.drop pre.length, rfl, hh, by simp only [List.length_append, List.length_drop] at *; omega, fun i hi hm => ?_, hn, hge, d, fun pre' hp' => ?_⟩
  · rw [List.getElem?_drop, e3 _ (by simp only [List.length_append]; omega) (by rw [hp, Nat.add_comm]; exact hm), List.getElem?_append_right (by omega)]
    congr 1; omega
  · rw [hh] at e1
    exact owL_pre (by omega) (fun _ _ => rfl) e1 (fun b hb => by have := hge b hb; omega)
theorem wm_at {P : Program} {N : Nat} {R : ASt → Prop} {c : MC} {k : List Item} {f : FuncId} {args : List AV} {o : Oper} {l : List Oper} {U : List Nat} {ok : Bool} {s : ASt} {ks : List Nat} {K' : AV → List Blk → Prop} {h0 : List Blk} (hc : ACalls P f args h0 ks K') (hok : ((ok && ks.all c.ms.contains) || decide (l.length < c.f)) = true)
    (hmut : c.ms.all (fun b => match c.h0[b]? with | some k => k.st.isMut | none => false) = true) (hs : h0 = s.h)
    (hK : ∀ r h', K' r h' → WM P N c R k (mrun P c l (addU o.dst U) (ok && ks.all c.ms.contains) (ASt.put ⟨s.n, s.t, h'⟩ o.dst r))) : WM P N c R k (.call f args o l U ok s) := by
  subst hs
  exact wm_any hc hok hmut hK
end Go.Proofs.Sh
namespace Go.Proofs.Grad
end Go.Proofs.Grad
/- Owned results, and the same seen as frozen ones. -/
namespace Go.Proofs.Sh
open Go.RowKit Go.Proofs.Grad

@[go_sem] theorem app3a {α : Type} (T : List α) (x y z : α) : (T ++ [x] ++ [y] ++ [z])[T.length]? = some x := by simp
@[go_sem] theorem app3b {α : Type} (T : List α) (x y z : α) : (T ++ [x] ++ [y] ++ [z])[T.length + 1]? = some y := by simp
@[go_sem] theorem app3c {α : Type} (T : List α) (x y z : α) : (T ++ [x] ++ [y] ++ [z])[T.length + 1 + 1]? = some z := by
  rw [List.append_assoc, List.append_assoc, List.getElem?_append_right (by omega), show T.length + 1 + 1 - T.length = 2 from by omega]; rfl
@[go_sem] theorem set3a {α : Type} (T : List α) (x y z u : α) : (T ++ [x] ++ [y] ++ [z]).set T.length u = T ++ [u] ++ [y] ++ [z] := by simp
@[go_sem] theorem set3b {α : Type} (T : List α) (x y z u : α) : (T ++ [x] ++ [y] ++ [z]).set (T.length + 1) u = T ++ [x] ++ [u] ++ [z] := by simp
@[go_sem] theorem set3c {α : Type} (T : List α) (x y z u : α) : (T ++ [x] ++ [y] ++ [z]).set (T.length + 1 + 1) u = T ++ [x] ++ [y] ++ [u] := by
  rw [List.append_assoc, List.append_assoc, List.set_append_right _ _ (by omega), show T.length + 1 + 1 - T.length = 2 from by omega]; simp
/-- what stands about a struct's cells in a result -/
structure WF (F : List C → AV) : Prop where
  flat : ∀ cs, cs.all C.flat = true → (F cs).flat = true
  ren : ∀ cs g, (F cs).ren g = F (cs.map (C.ren g))
  pr : ∀ {h : List Blk} {ids : List Nat} {cs cs' : List C}, prL false h ids cs = some (cs', []) → prVs false h ids [F cs] = some ([F cs'], [])
  frz : ∀ {L L' μ : List Nat} {w : World} {cs enc : List C} {v : Value}, (∀ us, C.repl L μ w cs us → C.repl L' [] w enc us) → AV.rep L μ w (F cs) v → AV.rep L' [] w (F enc) v
theorem WF.agg : WF .agg := ⟨fun _ h => h, ren_agg, prVs_agg, fun h hr => by
  simp only [AV.rep] at hr ⊢
  obtain ⟨arr, rfl, h2⟩ := hr
  exact ⟨arr, rfl, h _ h2⟩⟩
def boolF (b : Bool) (cs : List C) : AV := .tup [.agg cs, .one (.sc (.bool b))]
theorem WF.bool (b : Bool) : WF (boolF b) :=
  ⟨fun cs h => by simp only [boolF, AV.flat, AV.flats, h, C.flat, Bool.and_true], fun cs g => by simp only [boolF, AV.ren, AV.renL, renA_map, C.ren],
   fun e => by simp only [boolF, prVs, prV, e, prC, List.append_nil], fun h hr => by
    simp only [boolF, AV.rep, AV.repl] at hr ⊢
    obtain ⟨arr, rfl, u, us', e1, ⟨a2, rfl, h2⟩, h3⟩ := hr
    exact ⟨arr, rfl, .agg a2, us', e1, ⟨a2, rfl, h _ h2⟩, by simpa only [C.rep] using h3⟩⟩
end Go.Proofs.Sh
/- The unsafe labels as the caller's own numbers; numbers compared, marked, read again. On shadows. -/
namespace Go.Proofs.Sh
open Go.RowKit
/-- numbers: none, or a slice of one's own -/
def IntsR (L : List Int) (r : AV) (H' : List Blk) : Prop := (L = [] ∧ r = .one (.sl []) ∧ H' = []) ∨ (r = .one (.row 1 0 L.length) ∧ H' = [⟨1, 3, .mut, intR L⟩])
/-- so many numbers on from k -/
def upI : Nat → Nat → List Int
  | _, 0 => []
  | k, n + 1 => ((k : Nat) : Int) :: upI (k + 1) n
theorem upI_length (k n : Nat) : (upI k n).length = n := by induction n generalizing k with | zero => rfl | succ n ih => simp [upI, ih]
theorem upI_num (n : Nat) : ∀ (k i : Nat), i < n → num (upI k n) i = ((k + i : Nat) : Int) := by
  induction n with
  | zero => intro k i h; omega
  | succ n ih =>
    intro k i h
    cases i with
    | zero => rfl
    | succ i =>
      have h1 := ih (k + 1) i (by omega)
      have h2 : num (upI k (n + 1)) (i + 1) = num (upI (k + 1) n) i := rfl
      rw [h2, h1]; congr 1; omega
/-- the first i numbers overwritten -/
theorem upI_next (k i : Nat) (L : List Int) (h : i < L.length) : (intR (upI k i ++ L.drop i)).set i [.sc (.int .i64 ((k + i : Nat) : Int))] = intR (upI k (i + 1) ++ L.drop (i + 1)) := by
  have snoc : ∀ (i k : Nat), upI k (i + 1) = upI k i ++ [((k + i : Nat) : Int)] := by
    intro i
    induction i with
    | zero => intro k; rfl
    | succ i ih =>
      intro k
      rw [upI, ih (k + 1)]
      simp only [upI, List.cons_append]
      rw [show k + 1 + i = k + (i + 1) by omega]
  have hl : (intR (upI k i)).length = i := by rw [intR_length, upI_length]
  rw [intR_append, List.set_append_right _ _ (by omega), hl, Nat.sub_self, snoc, List.drop_eq_getElem_cons h, intR_append, intR_append]
  simp [intR]
theorem ow_ints {h : List Blk} {b n t : Nat} {L : List Int} (hb : h[b]? = some ⟨1, t, .mut, intR L⟩) (hn : n = L.length) : ow h 1 (.row 1 b n) = some (.sl (intR L), [b]) := by
  refine ow_row_of (k := ⟨1, t, .mut, intR L⟩) hb rfl (by rw [intR_length, hn]) rfl (intR_len L) ?_
  clear hb hn
  induction L with
  | nil => rfl
  | cons z L ih =>
    simp only [intR, fzRows, ih]
    rfl
end Go.Proofs.Sh
namespace Go.Proofs.Ytbiobfbonpiiiaa
open Go.RowKit Go.Proofs.Sh Go.Proofs.Grad
set_option maxRecDepth 100000
set_option maxHeartbeats 8000000

theorem eqInts (L : List Int) (hL : L.length < 100000000) : AFn Try.prog 34 [.one (.sl (intR L)), .one (.sl (intR L))] (.one (.sc (.bool true))) := by
  have b0 : (((L.length : Nat) : Int) != ((L.length : Nat) : Int)) = false := by simp
  refine fn_in ?_; refine acl_in Try.func34 rfl isfn_34 (Nat.le_of_ble_eq_true rfl) (fun R hR => ?_); rw [Try.results34] at hR; refine wg_run ?_; (simp only [Try.f34, go_sem, b0])
  repeat' (first | (first | (simp only [go_sem, b0]) | (((first | apply sp1 | apply sp2 | apply sp3 | apply sp4 | apply sp5 | apply sp6 | apply sp7) <;> intro hb) <;> (simp only [go_sem, hb, b0])) | ((first | apply wm_done | apply wt_done | apply wg_run | refine fk ?_ ?_) <;> (simp only [go_sem, b0]))) | fail)
  refine wd_for [0, 1, 5] (fun k => [.one (.sl (intR L)), .one (.sl (intR L)), .one (.sc (.int .i64 (k : Nat)))]) (fun _ => []) (fun k => k ≤ L.length) (fun k => L.length - k) 0 (Nat.zero_le _) (hat [] (hI := ⟨rfl, rfl⟩)) ?_
  rintro k hk G hG
  refine wg_run ?_
  (simp only [go_sem])
  ((first | apply sp1 | apply sp2 | apply sp3 | apply sp4 | apply sp5 | apply sp6 | apply sp7) <;> intro hb) <;> (simp only [go_sem, hb])
  · have hk1 : k < L.length := by have := of_decide_eq_true hb; omega
    have hw1 := wrap_succ hk1 (by omega)
    have b2 : decide ((0 : Int) ≤ (k : Int)) = true := decide_eq_true (by omega)
    have b3 : (Sh.num L k != Sh.num L k) = false := by simp
    repeat' (first | (first | (simp only [go_sem, hb, hw1, b2, b3]) | (((first | apply sp1 | apply sp2 | apply sp3 | apply sp4 | apply sp5 | apply sp6 | apply sp7) <;> intro hb) <;> (simp only [go_sem, hb, hb, hw1, b2, b3])) | ((first | apply wm_done | apply wt_done | apply wg_run | refine fk ?_ ?_) <;> (simp only [go_sem, hb, hw1, b2, b3]))) | ((first | refine mxq6 [] ?_ | refine mxq5 [] ?_ | refine mxq4 [] ?_ | refine mxq3 [] ?_ | refine mxq2 [] ?_ | refine mxq1 [] ?_ | refine mxq0 [] ?_ | fail); (simp only [go_sem, hb, hw1, b2, b3])) | fail)
    exact hG (k + 1) _ _ (by omega) (by omega) (hat [] (hI := ⟨rfl, rfl⟩))
  · repeat' (first | (first | (((first | apply sp1 | apply sp2 | apply sp3 | apply sp4 | apply sp5 | apply sp6 | apply sp7) <;> intro hb) <;> (simp only [go_sem, hb])) | ((first | apply wm_done | apply wt_done | apply wg_run | refine fk ?_ ?_) <;> (simp only [go_sem]))) | fail)
    (refine hR _ (rat [] (hK := ⟨rfl, rfl⟩)))
theorem heldInts (n k : Nat) (h : n + k < 100000000) : AFn Try.prog 38 [.one (.sl (intR (upI k n))), .one (.sc (.int .i64 (k : Nat)))] (.one (.sc (.int .i64 ((k + n : Nat) : Int)))) := by
  have hl := upI_length k n
  refine fn_in ?_; refine acl_in Try.func38 rfl isfn_38 (Nat.le_of_ble_eq_true rfl) (fun R hR => ?_); rw [Try.results38] at hR; refine wg_run ?_; (simp only [Try.f38, go_sem])
  refine wd_for [0, 1, 5] (fun i => [.one (.sl (intR (upI k n))), .one (.sc (.int .i64 ((k + i : Nat) : Int))), .one (.sc (.int .i64 (i : Nat)))]) (fun _ => []) (fun i => i ≤ n) (fun i => n - i) 0 (Nat.zero_le _) (hat [] (hI := ⟨rfl, rfl⟩)) ?_
  rintro i hi G hG
  refine wg_run ?_
  (simp only [go_sem, hl])
  ((first | apply sp1 | apply sp2 | apply sp3 | apply sp4 | apply sp5 | apply sp6 | apply sp7) <;> intro hb) <;> (simp only [go_sem, hb, hl])
  · have hi1 : i < n := by have := of_decide_eq_true hb; omega
    have hw1 := wrap_succ hi1 (by omega)
    have b2 : decide ((0 : Int) ≤ (i : Int)) = true := decide_eq_true (by omega)
    have hm := upI_num n k i hi1
    have b3 : (((k + i : Nat) : Int) != ((k + i : Nat) : Int)) = false := by simp
    have hw2 : IntKind.i64.wrap (((k + i : Nat) : Int) + 1) = ((k + (i + 1) : Nat) : Int) := by rw [IntWalk.i64_in _ (by omega)]; omega
    repeat' (first | (first | (simp only [go_sem, hb, hl, hw1, hw2, b2, b3, hm]) | (((first | apply sp1 | apply sp2 | apply sp3 | apply sp4 | apply sp5 | apply sp6 | apply sp7) <;> intro hb) <;> (simp only [go_sem, hb, hb, hl, hw1, hw2, b2, b3, hm])) | ((first | apply wm_done | apply wt_done | apply wg_run | refine fk ?_ ?_) <;> (simp only [go_sem, hb, hl, hw1, hw2, b2, b3, hm]))) | ((first | refine mxq6 [] ?_ | refine mxq5 [] ?_ | refine mxq4 [] ?_ | refine mxq3 [] ?_ | refine mxq2 [] ?_ | refine mxq1 [] ?_ | refine mxq0 [] ?_ | fail); (simp only [go_sem, hb, hl, hw1, b2, b3, hm])) | fail)
    exact hG (i + 1) _ _ (by omega) (by omega) (hat [] (hI := ⟨rfl, rfl⟩))
  · have hi1 : i = n := by have := of_decide_eq_false hb; omega
    subst hi1
    repeat' (first | (first | (((first | apply sp1 | apply sp2 | apply sp3 | apply sp4 | apply sp5 | apply sp6 | apply sp7) <;> intro hb) <;> (simp only [go_sem, hb])) | ((first | apply wm_done | apply wt_done | apply wg_run | refine fk ?_ ?_) <;> (simp only [go_sem]))) | fail)
    (refine hR _ (rat [] (hK := ⟨rfl, rfl⟩)))
theorem markInts (h : List Blk) (b n : Nat) (L : List Int) (hb0 : h[b]? = some ⟨1, 3, .mut, intR L⟩) (hn : n = L.length) (k : Nat) (hk : n + k < 100000000) : ACl Try.prog 37 [.one (.row 1 b n), .one (.sc (.int .i64 (k : Nat)))] h (fun r h' => r = .one (.sc (.int .i64 ((k + n : Nat) : Int))) ∧ h' = h.set b ⟨1, 3, .mut, intR (upI k n)⟩) := by
  subst hn
  have hbl : b < h.length := (List.getElem?_eq_some_iff.1 hb0).1
  have hg : ∀ x : Blk, (h.set b x)[b]? = some x := fun x => by simp [hbl]
  have hs : ∀ x y : Blk, (h.set b x).set b y = h.set b y := fun x y => by simp
  have h0 : h = h.set b ⟨1, 3, .mut, intR L⟩ := by
    apply List.ext_getElem?
    intro i
    by_cases hi : i = b
    · subst hi; rw [hb0, hg]
    · rw [List.getElem?_set_ne (fun e => hi e.symm)]
  refine acl_in Try.func37 rfl isfn_37 (Nat.le_of_ble_eq_true rfl) (fun R hR => ?_); rw [Try.results37] at hR; refine wg_run ?_; (simp only [Try.f37, go_sem])
  refine wd_for [0, 1, 5] (fun i => [.one (.row 1 b L.length), .one (.sc (.int .i64 ((k + i : Nat) : Int))), .one (.sc (.int .i64 (i : Nat)))]) (fun i => h.set b ⟨1, 3, .mut, intR (upI k i ++ L.drop i)⟩) (fun i => i ≤ L.length) (fun i => L.length - i) 0 (Nat.zero_le _) (head_all (by (simp only [go_sem]); first | done | rfl) ⟨rfl, h0⟩) ?_
  rintro i hi G hG
  refine wg_run ?_
  (simp only [go_sem])
  ((first | apply sp1 | apply sp2 | apply sp3 | apply sp4 | apply sp5 | apply sp6 | apply sp7) <;> intro hb) <;> (simp only [go_sem, hb])
  · have hi1 : i < L.length := by have := of_decide_eq_true hb; omega
    have hw1 := wrap_succ hi1 (by omega)
    have b2 : decide ((0 : Int) ≤ (i : Int)) = true := decide_eq_true (by omega)
    have hw2 : IntKind.i64.wrap (((k + i : Nat) : Int) + 1) = ((k + (i + 1) : Nat) : Int) := by rw [IntWalk.i64_in _ (by omega)]; omega
    have b4 : decide (i < L.length) = true := decide_eq_true hi1
    have hnx := upI_next k i L hi1
    have hln : (intR (upI k i ++ L.drop i)).length = L.length := by rw [intR_length, List.length_append, upI_length, List.length_drop]; omega
    have hgt : (intR (upI k i ++ L.drop i))[i]? = some [C.sc (.int .i64 (Sh.num L i))] := by
      rw [intR_append, List.getElem?_append_right (by rw [intR_length, upI_length]; omega), intR_length, upI_length, Nat.sub_self, List.drop_eq_getElem_cons hi1, Sh.num_eq hi1]; rfl
    repeat' (first | (first | (simp only [go_sem, hb, hg, hs, hw1, hw2, b2, b4, hnx, hln, hgt]) | (((first | apply sp1 | apply sp2 | apply sp3 | apply sp4 | apply sp5 | apply sp6 | apply sp7) <;> intro hb) <;> (simp only [go_sem, hb, hb, hg, hs, hw1, hw2, b2, b4, hnx, hln, hgt])) | ((first | apply wm_done | apply wt_done | apply wg_run | refine fk ?_ ?_) <;> (simp only [go_sem, hb, hg, hs, hw1, hw2, b2, b4, hnx, hln, hgt]))) | fail)
    exact hG (i + 1) _ _ (by omega) (by omega) (head_all (by (simp only [go_sem]); first | done | rfl) ⟨rfl, rfl⟩)
  · have hi1 : i = L.length := by have := of_decide_eq_false hb; omega
    subst hi1
    clear hG
    have hfin : upI k L.length ++ L.drop L.length = upI k L.length := by rw [List.drop_length, List.append_nil]
    rw [hfin]
    repeat' (first | (first | (((first | apply sp1 | apply sp2 | apply sp3 | apply sp4 | apply sp5 | apply sp6 | apply sp7) <;> intro hb) <;> (simp only [go_sem, hb])) | ((first | apply wm_done | apply wt_done | apply wg_run | refine fk ?_ ?_) <;> (simp only [go_sem]))) | fail)
    exact hR _ (ret_all (by (simp only [go_sem]); first | done | rfl) ⟨rfl, rfl⟩)
end Go.Proofs.Ytbiobfbonpiiiaa
/- Trees whose lengths fit into the machine's numbers; their weights. -/
namespace Go.Proofs.Grad
mutual
def Ty.fits : Ty → Prop | .mk _ l => l.length ≤ 9223372036854775807 ∧ Ty.fitss l
def Ty.fitss : List Ty → Prop | [] => True | t :: l => t.fits ∧ Ty.fitss l
end
mutual
def Tm.fits : Tm → Prop | .mk _ n _ t f _ l => n.size ≤ 9223372036854775807 ∧ t.fits ∧ f.fits ∧ l.length ≤ 9223372036854775807 ∧ Tm.fitss l
def Tm.fitss : List Tm → Prop | [] => True | t :: l => t.fits ∧ Tm.fitss l
end
mutual
def Co.fits : Co → Prop | .mk _ _ _ l => l.length ≤ 9223372036854775807 ∧ Co.fitss l
def Co.fitss : List Co → Prop | [] => True | t :: l => t.fits ∧ Co.fitss l
end
theorem Ty.fitss_mem {t : Ty} : ∀ {l : List Ty}, Ty.fitss l → t ∈ l → t.fits
  | x :: l, h, hm => by
    rcases List.mem_cons.1 hm with rfl | hm
    · exact h.1
    · exact Ty.fitss_mem h.2 hm
theorem Tm.fitss_mem {t : Tm} : ∀ {l : List Tm}, Tm.fitss l → t ∈ l → t.fits
  | x :: l, h, hm => by
    rcases List.mem_cons.1 hm with rfl | hm
    · exact h.1
    · exact Tm.fitss_mem h.2 hm
theorem Co.fitss_mem {t : Co} : ∀ {l : List Co}, Co.fitss l → t ∈ l → t.fits
  | x :: l, h, hm => by
    rcases List.mem_cons.1 hm with rfl | hm
    · exact h.1
    · exact Co.fitss_mem h.2 hm
theorem Ty.fitss_of : ∀ {l : List Ty}, (∀ i (h : i < l.length), l[i].fits) → Ty.fitss l
  | [], _ => trivial
  | x :: l, h => ⟨h 0 (by simp), Ty.fitss_of fun i hi => h (i + 1) (by simpa using hi)⟩
theorem Tm.fitss_of : ∀ {l : List Tm}, (∀ i (h : i < l.length), l[i].fits) → Tm.fitss l
  | [], _ => trivial
  | x :: l, h => ⟨h 0 (by simp), Tm.fitss_of fun i hi => h (i + 1) (by simpa using hi)⟩
theorem Co.fitss_of : ∀ {l : List Co}, (∀ i (h : i < l.length), l[i].fits) → Co.fitss l
  | [], _ => trivial
  | x :: l, h => ⟨h 0 (by simp), Co.fitss_of fun i hi => h (i + 1) (by simpa using hi)⟩
mutual
def Ty.wt : Ty → Nat | .mk _ l => Ty.wts l
def Ty.wts : List Ty → Nat | [] => 0 | t :: l => 1 + t.wt + Ty.wts l
end
mutual
def Tm.wt : Tm → Nat | .mk _ n _ t f _ l => n.size + (t.wt + (f.wt + Tm.wts l))
def Tm.wts : List Tm → Nat | [] => 0 | t :: l => 1 + t.wt + Tm.wts l
end
mutual
def Co.wt : Co → Nat | .mk _ _ _ l => Co.wts l
def Co.wts : List Co → Nat | [] => 0 | t :: l => 1 + t.wt + Co.wts l
end
mutual
theorem Ty.size_wt : ∀ t : Ty, t.size = 1 + t.wt
  | .mk _ l => by simp only [Ty.size, Ty.wt, Ty.sizes_wts l]
theorem Ty.sizes_wts : ∀ l : List Ty, Ty.sizes l = Ty.wts l
  | [] => rfl
  | t :: l => by simp only [Ty.sizes, Ty.wts, Ty.size_wt t, Ty.sizes_wts l]
end
mutual
theorem Co.size_wt : ∀ t : Co, t.size = 1 + t.wt
  | .mk _ _ _ l => by simp only [Co.size, Co.wt, Co.sizes_wts l]
theorem Co.sizes_wts : ∀ l : List Co, Co.sizes l = Co.wts l
  | [] => rfl
  | t :: l => by simp only [Co.sizes, Co.wts, Co.size_wt t, Co.sizes_wts l]
end
mutual
theorem Tm.size_wt : ∀ t : Tm, t.size ≤ 3 + 3 * t.wt
  | .mk _ _ _ t f _ l => by
    have := Tm.sizes_wts l
    have := Ty.size_wt t
    have := Ty.size_wt f
    simp only [Tm.size, Tm.wt]; omega
theorem Tm.sizes_wts : ∀ l : List Tm, Tm.sizes l ≤ 3 * Tm.wts l
  | [] => by simp [Tm.sizes, Tm.wts]
  | t :: l => by have := Tm.size_wt t; have := Tm.sizes_wts l; simp only [Tm.sizes, Tm.wts]; omega
end
end Go.Proofs.Grad
