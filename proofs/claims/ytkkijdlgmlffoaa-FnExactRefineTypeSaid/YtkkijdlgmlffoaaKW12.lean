/- Texts of the proof, one behind another. -/
import Derived.Laws.Strings
import Derived.Test.YtkkijdlgmlffoaaKW7
import Derived.Test.YtkkijdlgmlffoaaKW11
set_option linter.unusedSimpArgs false
set_option linter.unusedVariables false
/- Owned trees: slices that grow, in a state of which the first blocks are known. -/
namespace Go.Proofs.Sh
open Go.RowKit

@[go_sem] theorem app_len {α : Type} (T : List α) (x : α) : (T ++ [x])[T.length]? = some x := by simp
@[go_sem] theorem app_len1 {α : Type} (T : List α) (x y : α) : (T ++ [x, y])[T.length]? = some x := by simp
@[go_sem] theorem app_len2 {α : Type} (T : List α) (x y : α) : (T ++ [x, y])[T.length + 1]? = some y := by simp
@[go_sem] theorem set_len {α : Type} (T : List α) (x y : α) : (T ++ [x]).set T.length y = T ++ [y] := by simp
@[go_sem] theorem set_len1 {α : Type} (T : List α) (x y z : α) : (T ++ [x, z]).set T.length y = T ++ [y, z] := by simp
@[go_sem] theorem set_len2 {α : Type} (T : List α) (x y z : α) : (T ++ [x, z]).set (T.length + 1) y = T ++ [x, y] := by simp
@[go_sem] theorem app_lenA {α : Type} (T : List α) (x y : α) : (T ++ [x] ++ [y])[T.length]? = some x := by simp
@[go_sem] theorem app_lenB {α : Type} (T : List α) (x y : α) : (T ++ [x] ++ [y])[T.length + 1]? = some y := by simp
@[go_sem] theorem set_lenA {α : Type} (T : List α) (x y z : α) : (T ++ [x] ++ [y]).set T.length z = T ++ [z] ++ [y] := by simp
@[go_sem] theorem set_lenB {α : Type} (T : List α) (x y z : α) : (T ++ [x] ++ [y]).set (T.length + 1) z = T ++ [x] ++ [z] := by simp
theorem get_app {α : Type} {T : List α} {j : Nat} {x : α} (h : T[j]? = some x) (U : List α) : (T ++ U)[j]? = some x := by
  rw [List.getElem?_append_left (List.getElem?_eq_some_iff.1 h).1]; exact h
theorem pre_split (pre : List Blk) {T h' : List Blk} (h1 : (pre ++ T).length ≤ h'.length) (h2 : ∀ b, b < (pre ++ T).length → h'[b]? = (pre ++ T)[b]?) : ∃ T', h' = pre ++ T' ∧ T.length ≤ T'.length ∧ ∀ i, i < T.length → T'[i]? = T[i]? := by
  refine ⟨h'.drop pre.length, ?_, by simp only [List.length_append, List.length_drop] at *; omega, fun i hi => ?_⟩
  · apply List.ext_getElem?
    intro i
    by_cases hi : i < pre.length
    · rw [h2 i (by simp; omega), List.getElem?_append_left hi, List.getElem?_append_left hi]
    · rw [List.getElem?_append_right (by omega), List.getElem?_drop]; congr 1; omega
  · rw [List.getElem?_drop, h2 _ (by simp; omega), List.getElem?_append_right (by omega)]; congr 1; omega
theorem pre1 {a : Blk} {T h' : List Blk} (h1 : (a :: T).length ≤ h'.length) (h2 : ∀ i, i < (a :: T).length → h'[i]? = (a :: T)[i]?) : ∃ T', h' = a :: T' ∧ T.length ≤ T'.length ∧ ∀ i, i < T.length → T'[i]? = T[i]? := pre_split [a] h1 h2
theorem pre3 {a b c : Blk} {T h' : List Blk} (h1 : (a :: b :: c :: T).length ≤ h'.length) (h2 : ∀ i, i < (a :: b :: c :: T).length → h'[i]? = (a :: b :: c :: T)[i]?) : ∃ T', h' = a :: b :: c :: T' ∧ T.length ≤ T'.length ∧ ∀ i, i < T.length → T'[i]? = T[i]? := pre_split [a, b, c] h1 h2

/-- the slice cell c: rows R, owned, in T, which lies behind p blocks -/
def Grown (s ty p : Nat) (R : List (List C)) (c : C) (T : List Blk) : Prop :=
  (R = [] ∧ c = .sc (.slice none 0 0)) ∨ ∃ j rows d js, 0 < R.length ∧ c = .row s (j + p) R.length ∧ T[j]? = some ⟨s, ty, .mut, rows⟩ ∧ rows.length = R.length ∧ rowsLen s rows = true ∧ (∀ pre : List Blk, pre.length = p → ow (pre ++ T) d c = some (.sl R, js)) ∧ js.Nodup ∧ ∀ b ∈ js, p ≤ b
theorem ow_pre {pre pre' T T' : List Blk} {d : Nat} {c c' : C} {ids : List Nat} (hp : pre.length = pre'.length) (hf : ∀ i, i < T.length → T'[i]? = T[i]?) (e : ow (pre ++ T) d c = some (c', ids)) (hge : ∀ b ∈ ids, pre.length ≤ b) : ow (pre' ++ T') d c = some (c', ids) :=
  ow_frame e (fun b hb => by
    have h1 := hge b hb
    have h2 := (ow_mut e b hb).lt
    rw [List.length_append] at h2
    rw [List.getElem?_append_right (by omega), List.getElem?_append_right h1, hf _ (by omega)]
    congr 1; omega)
theorem owL_pre {pre pre' T T' : List Blk} {d : Nat} {c c' : List C} {ids : List Nat} (hp : pre.length = pre'.length) (hf : ∀ i, i < T.length → T'[i]? = T[i]?) (e : fzL (ow (pre ++ T) d) c = some (c', ids)) (hge : ∀ b ∈ ids, pre.length ≤ b) : fzL (ow (pre' ++ T') d) c = some (c', ids) :=
  owL_frame e (fun b hb => by
    have h1 := hge b hb
    have h2 := (owL_mut e b hb).lt
    rw [List.length_append] at h2
    rw [List.getElem?_append_right (by omega), List.getElem?_append_right h1, hf _ (by omega)]
    congr 1; omega)
/-- one more row is appended -/
theorem Grown.more {s ty p d : Nat} {R : List (List C)} {c : C} {T T' pre : List Blk} {cs enc : List C} {ids : List Nat} (hG : Grown s ty p R c T) (hp : pre.length = p) (hT : T.length ≤ T'.length) (hf : ∀ i, i < T.length → T'[i]? = T[i]?)
    (e : fzL (ow (pre ++ T') d) cs = some (enc, ids)) (hl : cs.length = s) (hn : ids.Nodup) (hge : ∀ b ∈ ids, p + T.length ≤ b) :
    (c = .sc (.slice none 0 0) ∧ R = [] ∧ ∀ y, Grown s ty p (R ++ [enc]) (.row s (T'.length + 1 + p) 1) (T' ++ [y] ++ [⟨s, ty, .mut, [cs]⟩])) ∨
    ∃ j rows, c = .row s (j + p) R.length ∧ 0 < R.length ∧ T'[j]? = some ⟨s, ty, .mut, rows⟩ ∧ rows.length = R.length ∧ rowsLen s rows = true ∧ ∀ y, Grown s ty p (R ++ [enc]) (.row s (T'.length + 1 + p) (R.length + 1)) ((T' ++ [y]).set j ⟨s, ty, .dead, []⟩ ++ [⟨s, ty, .mut, rows ++ [cs]⟩]) := by
  have hgp : ∀ b ∈ ids, pre.length ≤ b := fun b hb => by have := hge b hb; omega
  rcases hG with ⟨hR, hc⟩ | ⟨j, rows, d0, js, hpos, hc, hj, hrl, hrs, how, hnd, hjs⟩
  · subst hR hc
    refine .inl ⟨rfl, rfl, fun y => .inr ⟨T'.length + 1, [cs], d + 1, (T'.length + 1 + p) :: ids, by simp, rfl, by rw [List.getElem?_append_right (by simp)]; simp, rfl, by simp [rowsLen, hl], fun pre' hp' => ?_, ?_, ?_⟩⟩
    · have e' := owL_pre (pre' := pre') (T' := T') (by omega) (fun _ _ => rfl) e hgp
      have := (own_grow0 (ty := ty) (y := y) e' hl hn (fun b hb => (owL_mut e' b hb).lt)).1
      rw [List.length_append, hp', show p + T'.length + 1 = T'.length + 1 + p from by omega] at this
      simpa only [List.append_assoc, List.nil_append] using this
    · refine List.nodup_cons.2 ⟨fun hm => ?_, hn⟩
      have := (owL_mut e _ hm).lt
      rw [List.length_append] at this; omega
    · intro b hb
      rcases List.mem_cons.1 hb with rfl | hb
      · omega
      · have := hge b hb; omega
  · subst hc
    have hjl := (List.getElem?_eq_some_iff.1 hj).1
    have hj' : T'[j]? = some ⟨s, ty, .mut, rows⟩ := by rw [hf j hjl]; exact hj
    refine .inr ⟨j, rows, rfl, hpos, hj', hrl, hrs, fun y => ?_⟩
    have key : ∀ pre' : List Blk, pre'.length = p → ∃ d3 is, ow (pre' ++ ((T' ++ [y]).set j ⟨s, ty, .dead, []⟩ ++ [⟨s, ty, .mut, rows ++ [cs]⟩])) d3 (.row s (T'.length + 1 + p) (R.length + 1)) = some (.sl (R ++ [enc]), (T'.length + 1 + p) :: is) ∧ ((T'.length + 1 + p) :: is).Nodup ∧ ∀ x ∈ is, x ∈ js ++ ids := fun pre' hp' => by
      have e0 := ow_pre (pre' := pre') (T' := T') (by omega) hf (how pre hp) (fun b hb => by have := hjs b hb; omega)
      have e1 := owL_pre (pre' := pre') (T' := T') (by omega) (fun _ _ => rfl) e hgp
      have hkk : (pre' ++ T')[j + p]? = some ⟨s, ty, .mut, rows⟩ := by rw [List.getElem?_append_right (by omega), ← hj']; congr 1; omega
      obtain ⟨d3, is, h1, h2, h3⟩ := own_grow (ty := ty) (y := y) e0 hkk e1 hl (by
        refine List.nodup_append.2 ⟨hnd, hn, fun a ha b hb hab => ?_⟩
        subst hab
        have h1 := (ow_mut (how pre hp) a ha).lt
        rw [List.length_append] at h1
        have := hge a hb; omega)
      rw [List.length_append, hp', show p + T'.length + 1 = T'.length + 1 + p from by omega] at h1 h2
      refine ⟨d3, is, ?_, h2, h3⟩
      rw [List.append_assoc, List.set_append_right _ _ (by omega), show j + p - pre'.length = j from by omega, List.append_assoc] at h1
      exact h1
    obtain ⟨d3, is, h1, h2, h3⟩ := key pre hp
    have hise : ∀ x ∈ (T'.length + 1 + p) :: is, p ≤ x := fun x hx => by
      rcases List.mem_cons.1 hx with rfl | hx
      · omega
      · rcases List.mem_append.1 (h3 x hx) with hx | hx
        · exact hjs x hx
        · have := hge x hx; omega
    refine .inr ⟨T'.length + 1, rows ++ [cs], d3, _, by simp, by simp, by rw [List.getElem?_append_right (by simp)]; simp, by simp [hrl], by rw [rowsLen_append, hrs]; simp [rowsLen, hl], fun pre' hp' => ?_, h2, hise⟩
    have h4 := ow_pre (pre' := pre') (T' := (T' ++ [y]).set j ⟨s, ty, .dead, []⟩ ++ [⟨s, ty, .mut, rows ++ [cs]⟩]) (by omega) (fun _ _ => rfl) h1 (fun b hb => by have := hise b hb; omega)
    simpa using h4

/-- a struct's cells are handed back with the blocks of their trees -/
theorem ret_ownK {P : Program} {rs : List ResultVar} {s : ASt} {d : Nat} {cs enc : List C} {ids : List Nat} {F : List C → AV} (h : aresult P s rs = some (F cs)) (e : fzL (ow s.h d) cs = some (enc, ids)) (hn : ids.Nodup) (hF : ∀ cs', prL false s.h ids cs = some (cs', []) → prVs false s.h ids [F cs] = some ([F cs'], [])) : ARet P rs 0 (OwnK enc F) s := by
  obtain ⟨r', H', h1, q1, q2⟩ := own_ret e hn hF
  exact ret_own ids h (by simpa using q1) q2
theorem prVs_agg {h : List Blk} {ids : List Nat} {cs cs' : List C} (e : prL false h ids cs = some (cs', [])) : prVs false h ids [.agg cs] = some ([.agg cs'], []) := by simp only [prVs, prV, e, List.append_nil]
theorem ren_agg (cs : List C) (g : Nat → Nat) : (AV.agg cs).ren g = .agg (cs.map (C.ren g)) := by simp only [AV.ren, renA_map]
/-- the whole of a slice that has grown -/
theorem Grown.ow {s ty p : Nat} {R : List (List C)} {c : C} {T : List Blk} (hG : Grown s ty p R c T) : ∃ d js, (∀ pre : List Blk, pre.length = p → ow (pre ++ T) d c = some (.sl R, js)) ∧ js.Nodup ∧ ∀ b ∈ js, p ≤ b := by
  rcases hG with ⟨rfl, rfl⟩ | ⟨j, rows, d0, js, hpos, rfl, hj, hrl, hrs, how, hnd, hjs⟩
  · exact ⟨0, [], fun _ _ => rfl, List.nodup_nil, by simp⟩
  · exact ⟨d0, js, how, hnd, hjs⟩
theorem ow_int {h : List Blk} {d : Nat} {k : IntKind} {n : Int} : Sh.ow h d (.sc (.int k n)) = some (.sc (.int k n), []) := by rw [ow_leaf (by simp)]; rfl
theorem owL_two {h : List Blk} {d : Nat} {k : IntKind} {n : Int} {c c' : C} {js : List Nat} (e : Sh.ow h d c = some (c', js)) : fzL (Sh.ow h d) [.sc (.int k n), c] = some ([.sc (.int k n), c'], js) := by
  simp only [fzL, ow_int, e, List.append_nil, List.nil_append]

/-! ### a slice that is made whole and filled row by row -/
/-- rows of which those of R are there, owned, in T, which lies behind p blocks; m more are as z says -/
def Filled (s p : Nat) (R : List (List C)) (m : Nat) (z : List C) (rows : List (List C)) (T : List Blk) : Prop :=
  ∃ rs d js, rows = rs ++ List.replicate m z ∧ rowsLen s rs = true ∧ rs.length = R.length ∧ (∀ pre : List Blk, pre.length = p → fzRows (ow (pre ++ T) d) rs = some (R, js)) ∧ js.Nodup ∧ ∀ b ∈ js, p ≤ b
theorem Filled.zero {s p m : Nat} {z : List C} : Filled s p [] m z (List.replicate m z) [] := ⟨[], 0, [], rfl, rfl, rfl, fun _ _ => rfl, List.nodup_nil, by simp⟩
theorem Filled.get {s p m : Nat} {R : List (List C)} {z : List C} {rows : List (List C)} {T : List Blk} (h : Filled s p R (m + 1) z rows T) : rows[R.length]? = some z := by
  obtain ⟨rs, d, js, rfl, h2, h3, h4, h5, h6⟩ := h
  rw [← h3, List.getElem?_append_right (Nat.le_refl _)]
  simp
theorem owR_pre {pre pre' T T' : List Blk} {d : Nat} {c c' : List (List C)} {ids : List Nat} (hp : pre.length = pre'.length) (hf : ∀ i, i < T.length → T'[i]? = T[i]?) (e : fzRows (ow (pre ++ T) d) c = some (c', ids)) (hge : ∀ b ∈ ids, pre.length ≤ b) : fzRows (ow (pre' ++ T') d) c = some (c', ids) :=
  owR_frame e (fun b hb => by
    have h1 := hge b hb
    have h2 := (owR_mut e b hb).lt
    rw [List.length_append] at h2
    rw [List.getElem?_append_right (by omega), List.getElem?_append_right h1, hf _ (by omega)]
    congr 1; omega)
theorem Filled.next {s p m d : Nat} {R : List (List C)} {z : List C} {rows : List (List C)} {T T' pre : List Blk} {cs enc : List C} {ids : List Nat} (h : Filled s p R (m + 1) z rows T) (hp : pre.length = p) (hf : ∀ i, i < T.length → T'[i]? = T[i]?)
    (e : fzL (ow (pre ++ T') d) cs = some (enc, ids)) (hl : cs.length = s) (hn : ids.Nodup) (hge : ∀ b ∈ ids, p + T.length ≤ b) : Filled s p (R ++ [enc]) m z (rows.set R.length cs) T' := by
  obtain ⟨rs, d0, js, rfl, h2, h3, h4, h5, h6⟩ := h
  refine ⟨rs ++ [cs], max d0 d, js ++ ids, ?_, by rw [rowsLen_append, h2]; simp [rowsLen, hl], by simp [h3], fun pre' hp' => ?_, ?_, ?_⟩
  · rw [← h3, List.set_append_right _ _ (Nat.le_refl _)]
    simp [List.replicate_succ]
  · refine fzRows_app (owR_le (Nat.le_max_left _ _) (owR_pre (pre := pre') (by omega) hf (h4 pre' hp') (fun b hb => by have := h6 b hb; omega))) ?_
    have := owL_le (Nat.le_max_right d0 d) (owL_pre (pre' := pre') (T' := T') (by omega) (fun _ _ => rfl) e (fun b hb => by have := hge b hb; omega))
    simp only [fzRows, this, List.append_nil]
  · refine List.nodup_append.2 ⟨h5, hn, fun a ha b hb hab => ?_⟩
    subst hab
    have h1 := (owR_mut (h4 pre hp) a ha).lt
    rw [List.length_append] at h1
    have := hge a hb; omega
  · intro b hb
    rcases List.mem_append.1 hb with hb | hb
    · exact h6 b hb
    · have := hge b hb; omega
theorem Filled.all {s p b n : Nat} {R : List (List C)} {z : List C} {rows : List (List C)} {T pre : List Blk} {k : Blk} (h : Filled s p R 0 z rows T) (hp : pre.length = p) (hb : b < p) (hk : pre[b]? = some k) (hr : k.rows = rows) (hs : k.s = s) (hm : k.st.isMut = true) (hn : n = R.length) : ∃ d js, ow (pre ++ T) d (.row s b n) = some (.sl R, b :: js) ∧ (b :: js).Nodup := by
  obtain ⟨rs, d0, js, rfl, h2, h3, h4, h5, h6⟩ := h
  simp only [List.replicate_zero, List.append_nil] at hr
  refine ⟨d0 + 1, js, ow_row_of (k := k) (by rw [List.getElem?_append_left (by omega)]; exact hk) hm (by rw [hr, h3, hn]) hs.symm (by rw [hr]; exact h2) (by rw [hr]; exact h4 pre hp), List.nodup_cons.2 ⟨fun hm => ?_, h5⟩⟩
  have := h6 b hm; omega

/-- one cell as a value -/
def one1 (cs : List C) : AV := .one (cs.getD 0 .top)
theorem one1_flat (cs : List C) (h : cs.all C.flat = true) : (one1 cs).flat = true := by
  cases cs with
  | nil => rfl
  | cons c cs => simp only [List.all_cons, Bool.and_eq_true] at h; exact h.1
theorem one1_ren (cs : List C) (g : Nat → Nat) : (one1 cs).ren g = one1 (cs.map (C.ren g)) := by
  cases cs <;> rfl
theorem prVs_one1 {h : List Blk} {ids : List Nat} {c : C} {d : Nat} {enc : List C} (e : fzL (Sh.ow h d) [c] = some (enc, ids)) (cs' : List C) (ep : prL false h ids [c] = some (cs', [])) : prVs false h ids [one1 [c]] = some ([one1 cs'], []) := by
  obtain ⟨x, i, h1, h2⟩ : ∃ x i, Sh.ow h d c = some (x, i) ∧ i = ids := by
    simp only [fzL] at e
    split at e
    · rename_i c1 i c2 j h1 h2
      simp only [Option.some.injEq, Prod.mk.injEq] at e h2
      exact ⟨c1, i, h1, by rw [← e.2, ← h2.2]; simp⟩
    · cases e
  subst h2
  have h3 := prC_ow (ks := i) h1 (fun _ h => h)
  have h4 := prL_ow e (fun _ h => h)
  rw [h4] at ep
  simp only [Option.some.injEq, Prod.mk.injEq, and_true] at ep
  subst ep
  simp only [prVs, prV, one1, List.getD_cons_zero, h3, List.append_nil, List.map_cons, List.map_nil]
theorem owL_one {h : List Blk} {d : Nat} {c c' : C} {js : List Nat} (e : Sh.ow h d c = some (c', js)) : fzL (Sh.ow h d) [c] = some ([c'], js) := by
  simp only [fzL, e, List.append_nil]
end Go.Proofs.Sh
/- Coercions as trees, and their pure functions. No program, no world. -/
namespace Go.Proofs.Grad

/-- coercions as they come -/
inductive Co where
  | mk (k tag label : Int) (kids : List Co)
def Co.kind : Co → Int | .mk k _ _ _ => k
def Co.tag : Co → Int | .mk _ t _ _ => t
def Co.label : Co → Int | .mk _ _ l _ => l
def Co.kids : Co → List Co | .mk _ _ _ l => l
mutual
def Co.size : Co → Nat
  | .mk _ _ _ l => 1 + Co.sizes l
def Co.sizes : List Co → Nat
  | [] => 0
  | t :: l => t.size + Co.sizes l
end
/-- coercions that are valid but for depth and labels, where of a form -/
inductive K where
  | id (g : Int) | fn (a b : K) | pr (a b : K) | inj (c : K) | prj (l : Int) (c : K) | fail (l g : Int)
def K.co : K → Co
  | .id g => .mk 1 g 0 []
  | .fn a b => .mk 2 0 0 [a.co, b.co]
  | .pr a b => .mk 3 0 0 [a.co, b.co]
  | .inj c => .mk 4 0 0 [c.co]
  | .prj l c => .mk 5 0 l [c.co]
  | .fail l g => .mk 6 g l []
def K.plain : K → Bool
  | .fn _ _ => true | .pr _ _ => true | .id g => g != 1 | _ => false
def K.isAny : K → Bool
  | .id g => g == 1 | _ => false
def K.isPrj : K → Bool
  | .prj _ _ => true | _ => false
/-- a label -/
def lab (n : Int) : Bool := (decide (1 ≤ n) && decide (n ≤ 99)) || (decide (-99 ≤ n) && decide (n ≤ -1))
def K.wf : K → Bool
  | .id g => decide (1 ≤ g) && decide (g ≤ 3)
  | .fn a b => a.wf && b.wf
  | .pr a b => a.wf && b.wf
  | .inj c => c.plain && c.wf
  | .prj l c => lab l && !c.isPrj && !c.isAny && c.wf
  | .fail l g => lab l && decide (2 ≤ g) && decide (g ≤ 5)
def K.depth : K → Nat
  | .id _ => 1 | .fail _ _ => 1
  | .fn a b => max a.depth b.depth + 1
  | .pr a b => max a.depth b.depth + 1
  | .inj c => c.depth + 1
  | .prj _ c => c.depth + 1
def K.size : K → Nat
  | .id _ => 1 | .fail _ _ => 1
  | .fn a b => a.size + b.size + 1
  | .pr a b => a.size + b.size + 1
  | .inj c => c.size + 1
  | .prj _ c => c.size + 1
def K.tag : K → Int
  | .id g => g | .fn _ _ => 4 | .pr _ _ => 5 | .inj c => c.tag | .prj _ _ => 0 | .fail _ g => g
def K.labels : K → List Int
  | .id _ => [] | .fail l _ => [l]
  | .fn a b => a.labels ++ b.labels
  | .pr a b => a.labels ++ b.labels
  | .inj c => c.labels
  | .prj l c => l :: c.labels
/-- first a, then b, where they fit -/
def K.comp (a b : K) : Option K :=
  match a, b with
  | .id g, b => if g = 1 then (if b.isPrj || b.isAny then some b else none) else
      match b with
      | .fail l t => if g = t then some (.fail l t) else none
      | .inj c => (K.comp (.id g) c).map .inj
      | .id g' => if g = g' then some (.id g) else none
      | _ => none
  | .prj l c, b => (K.comp c b).map (.prj l)
  | .fail l g, _ => some (.fail l g)
  | .inj c, .prj l d => if c.tag = d.tag then K.comp c d else some (.fail l c.tag)
  | .inj c, b => if b.isAny then some (.inj c) else none
  | .fn a1 a2, .fail l t => if t = 4 then some (.fail l t) else none
  | .pr a1 a2, .fail l t => if t = 5 then some (.fail l t) else none
  | .fn a1 a2, .inj c => (K.comp (.fn a1 a2) c).map .inj
  | .pr a1 a2, .inj c => (K.comp (.pr a1 a2) c).map .inj
  | .fn a1 a2, .fn b1 b2 => match K.comp b1 a1, K.comp a2 b2 with | some x, some y => some (.fn x y) | _, _ => none
  | .pr a1 a2, .pr b1 b2 => match K.comp a1 b1, K.comp a2 b2 with | some x, some y => some (.pr x y) | _, _ => none
  | _, _ => none
termination_by a.size + b.size
decreasing_by all_goals (simp only [K.size]; omega)

/-! ### Coercions as they come -/
mutual
def Co.same : Co → Co → Bool
  | .mk k t l a, .mk k' t' l' b => k == k' && (t == t' && (l == l' && Co.sames a b))
def Co.sames : List Co → List Co → Bool
  | [], [] => true
  | a :: l, b :: m => a.same b && Co.sames l m
  | _, _ => false
end
mutual
theorem Co.same_iff : ∀ a b : Co, a.same b = true ↔ a = b
  | .mk k t l a, .mk k' t' l' b => by simp [Co.same, Co.sames_iff a b]
theorem Co.sames_iff : ∀ a b : List Co, Co.sames a b = true ↔ a = b
  | [], [] => by simp [Co.sames]
  | [], _ :: _ => by simp [Co.sames]
  | _ :: _, [] => by simp [Co.sames]
  | a :: l, b :: m => by simp [Co.sames, Co.same_iff a b, Co.sames_iff l m]
end
theorem Co.same_refl (a : Co) : a.same a = true := (Co.same_iff a a).2 rfl
def Co.plain (c : Co) : Bool := c.kind == 2 || (c.kind == 3 || (c.kind == 1 && c.tag != 1))
def Co.okN (c : Co) : Bool :=
  match c with
  | .mk k t l ks =>
    if k = 1 then ks.length == 0 && (l == 0 && (decide (1 ≤ t) && decide (t ≤ 3)))
    else if k = 2 ∨ k = 3 then ks.length == 2 && (l == 0 && t == 0)
    else if k = 4 then (match ks with | [c] => l == 0 && (t == 0 && c.plain) | _ => false)
    else if k = 5 then (match ks with | [c] => lab l && (t == 0 && (c.kind != 5 && (c.kind != 1 || c.tag != 1))) | _ => false)
    else if k = 6 then ks.length == 0 && (lab l && (decide (2 ≤ t) && decide (t ≤ 5)))
    else false
def Co.shape : Nat → Co → Bool
  | 0, _ => false
  | d + 1, c => c.okN && c.kids.all (Co.shape d)
def Co.valid (c : Co) : Bool := c.shape 9

theorem K.co_plain (k : K) : k.co.plain = k.plain := by cases k <;> simp [K.co, Co.plain, Co.kind, Co.tag, K.plain]
theorem K.co_any (k : K) : (k.co.kind == 1 && k.co.tag == 1) = k.isAny := by cases k <;> simp [K.co, Co.kind, Co.tag, K.isAny]
theorem K.co_prj (k : K) : (k.co.kind == 5) = k.isPrj := by cases k <;> simp [K.co, Co.kind, K.isPrj]
theorem K.shape_co : ∀ (k : K) (d : Nat), k.co.shape d = (k.wf && decide (k.depth ≤ d))
  | k, 0 => by cases k <;> simp [Co.shape, K.depth]
  | .id g, d + 1 => by simp [K.co, Co.shape, Co.okN, Co.kids, K.wf, K.depth]
  | .fail l g, d + 1 => by simp [K.co, Co.shape, Co.okN, Co.kids, K.wf, K.depth, Bool.and_assoc]
  | .fn a b, d + 1 => by
    simp only [K.co, Co.shape, Co.okN, Co.kids, K.wf, K.depth, List.all_cons, List.all_nil, K.shape_co a d, K.shape_co b d]
    rw [Bool.eq_iff_iff]; simp; grind
  | .pr a b, d + 1 => by
    simp only [K.co, Co.shape, Co.okN, Co.kids, K.wf, K.depth, List.all_cons, List.all_nil, K.shape_co a d, K.shape_co b d]
    rw [Bool.eq_iff_iff]; simp; grind
  | .inj a, d + 1 => by
    simp only [K.co, Co.shape, Co.okN, Co.kids, K.wf, K.depth, List.all_cons, List.all_nil, K.shape_co a d, K.co_plain]
    rw [Bool.eq_iff_iff]; simp; grind
  | .prj l a, d + 1 => by
    have h1 := K.co_any a
    have h2 := K.co_prj a
    simp only [K.co, Co.shape, Co.okN, Co.kids, K.wf, K.depth, List.all_cons, List.all_nil, K.shape_co a d, ← h1, ← h2]
    rw [Bool.eq_iff_iff]; simp [bne]; grind
theorem Co.shape_K : ∀ (d : Nat) (c : Co), c.shape d = true → ∃ k : K, k.co = c ∧ k.wf = true ∧ k.depth ≤ d := by
  intro d
  induction d with
  | zero => intro c h; simp [Co.shape] at h
  | succ d ih =>
    intro c h
    obtain ⟨k, t, l, ks⟩ := c
    have h0 := h
    simp only [Co.shape, Bool.and_eq_true, Co.kids, List.all_eq_true] at h
    obtain ⟨h1, h2⟩ := h
    have fin : ∀ x : K, x.co = Co.mk k t l ks → ∃ k' : K, k'.co = Co.mk k t l ks ∧ k'.wf = true ∧ k'.depth ≤ d + 1 := by
      intro x hx
      rw [← hx, K.shape_co] at h0
      simp only [Bool.and_eq_true, decide_eq_true_eq] at h0
      exact ⟨x, hx, h0.1, h0.2⟩
    simp only [Co.okN] at h1
    split at h1
    · rename_i hk; simp at h1
      obtain ⟨rfl, rfl, _⟩ := h1
      subst hk
      exact fin (.id t) rfl
    · split at h1
      · rename_i hk; simp at h1
        obtain ⟨hl, rfl, rfl⟩ := h1
        obtain ⟨a, b, rfl⟩ : ∃ a b, ks = [a, b] := by
          match ks, hl with
          | [a, b], _ => exact ⟨a, b, rfl⟩
        obtain ⟨x, hx, _⟩ := ih a (h2 a (by simp))
        obtain ⟨y, hy, _⟩ := ih b (h2 b (by simp))
        rcases hk with rfl | rfl
        · exact fin (.fn x y) (by rw [K.co, hx, hy])
        · exact fin (.pr x y) (by rw [K.co, hx, hy])
      · split at h1
        · rename_i hk; subst hk
          split at h1
          · rename_i a; simp at h1
            obtain ⟨rfl, rfl, _⟩ := h1
            obtain ⟨x, hx, _⟩ := ih a (h2 a (by simp))
            exact fin (.inj x) (by rw [K.co, hx])
          · cases h1
        · split at h1
          · rename_i hk; subst hk
            split at h1
            · rename_i a; simp at h1
              obtain ⟨_, rfl, _⟩ := h1
              obtain ⟨x, hx, _⟩ := ih a (h2 a (by simp))
              exact fin (.prj l x) (by rw [K.co, hx])
            · cases h1
          · split at h1
            · rename_i hk; subst hk
              simp at h1
              obtain ⟨rfl, _⟩ := h1
              exact fin (.fail l t) rfl
            · cases h1
theorem Co.valid_iff (c : Co) : c.valid = true ↔ ∃ k : K, k.co = c ∧ k.wf = true ∧ k.depth ≤ 9 :=
  ⟨Co.shape_K 9 c, fun ⟨k, e, h1, h2⟩ => by rw [← e, Co.valid, K.shape_co, h1]; simpa using h2⟩
end Go.Proofs.Grad
/- Relations on types that are valid. No program, no world. -/
namespace Go.Proofs.Grad
open Classical in
/-- the relation, where both types are valid -/
noncomputable def onT (R : T → T → Bool) (a b : Ty) : Bool := decide (∃ x y : T, x.ty = a ∧ y.ty = b ∧ x.depth ≤ 4 ∧ y.depth ≤ 4 ∧ R x y = true)

end Go.Proofs.Grad
/- Terms as trees, their checks and their forms. No program, no world. -/
namespace Go.Proofs.Grad

/-- terms as they come -/
inductive Tm where
  | mk (kind : Int) (name : ByteArray) (num : Int) (type frm : Ty) (label : Int) (kids : List Tm)
def Tm.kind : Tm → Int | .mk k _ _ _ _ _ _ => k
def Tm.name : Tm → ByteArray | .mk _ n _ _ _ _ _ => n
def Tm.num : Tm → Int | .mk _ _ n _ _ _ _ => n
def Tm.type : Tm → Ty | .mk _ _ _ t _ _ _ => t
def Tm.frm : Tm → Ty | .mk _ _ _ _ t _ _ => t
def Tm.label : Tm → Int | .mk _ _ _ _ _ l _ => l
def Tm.kids : Tm → List Tm | .mk _ _ _ _ _ _ l => l
mutual
def Tm.size : Tm → Nat
  | .mk _ _ _ t f _ l => 1 + (t.size + f.size + Tm.sizes l)
def Tm.sizes : List Tm → Nat
  | [] => 0
  | t :: l => t.size + Tm.sizes l
end
theorem bytes_ext {a b : ByteArray} (h : a.toList = b.toList) : a = b := by
  rw [Go.ByteArray.toList_eq, Go.ByteArray.toList_eq] at h
  obtain ⟨⟨a⟩⟩ := a; obtain ⟨⟨b⟩⟩ := b
  simp at h; subst h; rfl
mutual
def Tm.same : Tm → Tm → Bool
  | .mk k n m t f l a, .mk k' n' m' t' f' l' b => k == k' && (n.toList == n'.toList && (m == m' && (t.same t' && (f.same f' && (l == l' && Tm.sames a b)))))
def Tm.sames : List Tm → List Tm → Bool
  | [], [] => true
  | a :: l, b :: m => a.same b && Tm.sames l m
  | _, _ => false
end
mutual
theorem Tm.same_iff : ∀ a b : Tm, a.same b = true ↔ a = b
  | .mk k n m t f l a, .mk k' n' m' t' f' l' b => by
    simp only [Tm.same, Bool.and_eq_true, beq_iff_eq, Ty.same_iff, Tm.sames_iff a b, Tm.mk.injEq]
    exact ⟨fun ⟨h1, h2, h3, h4, h5, h6, h7⟩ => ⟨h1, bytes_ext h2, h3, h4, h5, h6, h7⟩, fun ⟨h1, h2, h3, h4, h5, h6, h7⟩ => ⟨h1, by rw [h2], h3, h4, h5, h6, h7⟩⟩
theorem Tm.sames_iff : ∀ a b : List Tm, Tm.sames a b = true ↔ a = b
  | [], [] => by simp [Tm.sames]
  | [], _ :: _ => by simp [Tm.sames]
  | _ :: _, [] => by simp [Tm.sames]
  | a :: l, b :: m => by simp [Tm.sames, Tm.same_iff a b, Tm.sames_iff l m]
end
theorem Tm.same_refl (a : Tm) : a.same a = true := (Tm.same_iff a a).2 rfl

/-! ### checks of a node -/
/-- a name -/
def nmOk (s : ByteArray) : Bool := s.size == 1 && (match s[0]? with | some b => decide (97 ≤ (b.toNat : Int)) && decide ((b.toNat : Int) ≤ 122) | none => false)
def nm (b : UInt8) : ByteArray := ⟨#[b]⟩
def nmB (b : UInt8) : Bool := decide (97 ≤ (b.toNat : Int)) && decide ((b.toNat : Int) ≤ 122)
/-- how many operands -/
def opN (k : Int) : Int := if k = 1 then 0 else if k = 2 then 0 else if k = 3 then 0 else if k = 4 then 0 else if k = 5 then 1 else if k = 6 then 2 else if k = 7 then 2 else if k = 8 then 2 else if k = 9 then 3 else if k = 10 then 2 else if k = 11 then 1 else if k = 12 then 1 else if k = 13 then 1 else if k = 14 then 1 else -1
def noTy : Ty := .mk 0 []
def Ty.isNo (t : Ty) : Bool := t.kind == 0 && t.kids.length == 0
noncomputable def Tm.nodeOk (t : Tm) : Bool :=
  opN t.kind == (t.kids.length : Int) &&
  ((if t.kind = 1 ∨ t.kind = 5 then nmOk t.name else t.name.size == 0) &&
  ((decide (0 ≤ t.num) && decide (t.num ≤ if t.kind = 2 then 999 else 0)) &&
  ((if t.kind = 5 ∨ t.kind = 13 ∨ t.kind = 14 then t.type.valid else t.type.isNo) &&
  (if t.kind = 14 then onT T.cons t.frm t.type && lab t.label else t.frm.isNo && t.label == 0))))
noncomputable def Tm.shape (no : Int) : Nat → Tm → Bool
  | 0, _ => false
  | d + 1, t => t.kind != no && (t.nodeOk && t.kids.all (Tm.shape no d))
inductive E where
  | var (x : UInt8) | num (n : Int) | tru | fls | lam (x : UInt8) (t : T) (e : E) | app (a b : E) | add (a b : E) | less (a b : E) | ite (a b c : E) | pair (a b : E) | fst (a : E) | snd (a : E) | asc (t : T) (a : E) | cast (s t : T) (l : Int) (a : E)
/-- a node with no name, no number, no types, no label -/
def nd (k : Int) (l : List Tm) : Tm := .mk k ByteArray.empty 0 noTy noTy 0 l
def E.tm : E → Tm
  | .var x => .mk 1 (nm x) 0 noTy noTy 0 []
  | .num n => .mk 2 ByteArray.empty n noTy noTy 0 []
  | .tru => nd 3 []
  | .fls => nd 4 []
  | .lam x t e => .mk 5 (nm x) 0 t.ty noTy 0 [e.tm]
  | .app a b => nd 6 [a.tm, b.tm]
  | .add a b => nd 7 [a.tm, b.tm]
  | .less a b => nd 8 [a.tm, b.tm]
  | .ite a b c => nd 9 [a.tm, b.tm, c.tm]
  | .pair a b => nd 10 [a.tm, b.tm]
  | .fst a => nd 11 [a.tm]
  | .snd a => nd 12 [a.tm]
  | .asc t a => .mk 13 ByteArray.empty 0 t.ty noTy 0 [a.tm]
  | .cast s t l a => .mk 14 ByteArray.empty 0 t.ty s.ty l [a.tm]
def E.kids : E → List E
  | .var _ | .num _ | .tru | .fls => []
  | .lam _ _ a | .fst a | .snd a | .asc _ a | .cast _ _ _ a => [a]
  | .app a b | .add a b | .less a b | .pair a b => [a, b]
  | .ite a b c => [a, b, c]
def E.wf : E → Bool
  | .var x => nmB x
  | .num n => decide (0 ≤ n) && decide (n ≤ 999)
  | .tru | .fls => true
  | .lam x t a => nmB x && (decide (t.depth ≤ 4) && a.wf)
  | .app a b | .add a b | .less a b | .pair a b => a.wf && b.wf
  | .ite a b c => a.wf && (b.wf && c.wf)
  | .fst a | .snd a => a.wf
  | .asc t a => decide (t.depth ≤ 4) && a.wf
  | .cast s t l a => (decide (s.depth ≤ 4) && decide (t.depth ≤ 4)) && (s.cons t && (lab l && a.wf))
def E.noA : E → Bool
  | .var _ | .num _ | .tru | .fls => true
  | .lam _ _ a | .fst a | .snd a | .cast _ _ _ a => a.noA
  | .app a b | .add a b | .less a b | .pair a b => a.noA && b.noA
  | .ite a b c => a.noA && (b.noA && c.noA)
  | .asc _ _ => false
def E.depth : E → Nat
  | .var _ | .num _ | .tru | .fls => 1
  | .lam _ _ a | .fst a | .snd a | .asc _ a | .cast _ _ _ a => a.depth + 1
  | .app a b | .add a b | .less a b | .pair a b => max a.depth b.depth + 1
  | .ite a b c => max a.depth (max b.depth c.depth) + 1
theorem T.valid_ty (t : T) : t.ty.valid = decide (t.depth ≤ 4) := T.shape_ty t 4
end Go.Proofs.Grad
/- Terms as shadows. -/
namespace Go.Proofs.Sh
open Go.RowKit Go.Proofs.Grad

mutual
def teC : Tm → List C
  | .mk x0 x1 x2 x3 x4 x5 x6 => [.sc (.int .i64 (x0)), .sc (.string (x1)), .sc (.int .i64 (x2)), .sc (.int .i64 (x3).kind), .sl (tyR (x3).kids), .sc (.int .i64 (x4).kind), .sl (tyR (x4).kids), .sc (.int .i64 (x5)), .sl (teR (x6))]
def teR : List Tm → List (List C)
  | [] => []
  | t :: l => teC t :: teR l
end
theorem teC_eq (t : Tm) : teC t = [.sc (.int .i64 (t.kind)), .sc (.string (t.name)), .sc (.int .i64 (t.num)), .sc (.int .i64 (t.type).kind), .sl (tyR (t.type).kids), .sc (.int .i64 (t.frm).kind), .sl (tyR (t.frm).kids), .sc (.int .i64 (t.label)), .sl (teR (t.kids))] := by cases t; rfl
@[go_sem] theorem teC_length (t : Tm) : (teC t).length = 9 := by rw [teC_eq]; rfl
@[go_sem] theorem teC_take (t : Tm) : (teC t).take 9 = teC t := by rw [teC_eq]; rfl
@[go_sem] theorem teC_drop (t : Tm) : (teC t).drop 0 = teC t := rfl
@[go_sem] theorem teC_dropn (t : Tm) : (teC t).drop 9 = [] := by rw [teC_eq]; rfl
@[go_sem] theorem teC_treeL (t : Tm) : treeL (teC t) = true := by rw [teC_eq]; rfl
@[go_sem] theorem teC_0 (t : Tm) : (teC t)[0]? = some (.sc (.int .i64 (t.kind))) := by rw [teC_eq]; rfl
@[go_sem] theorem teC_1 (t : Tm) : (teC t)[1]? = some (.sc (.string (t.name))) := by rw [teC_eq]; rfl
@[go_sem] theorem teC_2 (t : Tm) : (teC t)[2]? = some (.sc (.int .i64 (t.num))) := by rw [teC_eq]; rfl
@[go_sem] theorem teC_3 (t : Tm) : (teC t)[3]? = some (.sc (.int .i64 (t.type).kind)) := by rw [teC_eq]; rfl
@[go_sem] theorem teC_4 (t : Tm) : (teC t)[4]? = some (.sl (tyR (t.type).kids)) := by rw [teC_eq]; rfl
@[go_sem] theorem teC_dlen3 (t : Tm) : ((teC t).drop 3).length = 6 := by rw [teC_eq]; rfl
@[go_sem] theorem teC_part3 (t : Tm) : ((teC t).drop 3).take 2 = tyC t.type := by rw [teC_eq, tyC_eq]; rfl
@[go_sem] theorem teC_5 (t : Tm) : (teC t)[5]? = some (.sc (.int .i64 (t.frm).kind)) := by rw [teC_eq]; rfl
@[go_sem] theorem teC_6 (t : Tm) : (teC t)[6]? = some (.sl (tyR (t.frm).kids)) := by rw [teC_eq]; rfl
@[go_sem] theorem teC_dlen5 (t : Tm) : ((teC t).drop 5).length = 4 := by rw [teC_eq]; rfl
@[go_sem] theorem teC_part5 (t : Tm) : ((teC t).drop 5).take 2 = tyC t.frm := by rw [teC_eq, tyC_eq]; rfl
@[go_sem] theorem teC_7 (t : Tm) : (teC t)[7]? = some (.sc (.int .i64 (t.label))) := by rw [teC_eq]; rfl
@[go_sem] theorem teC_8 (t : Tm) : (teC t)[8]? = some (.sl (teR (t.kids))) := by rw [teC_eq]; rfl
@[go_sem] theorem tyC_app (t : Ty) (l : List C) : tyC t ++ l = .sc (.int .i64 t.kind) :: .sl (tyR t.kids) :: l := by rw [tyC_eq]; rfl
@[go_sem] theorem teC_splice0 (t : Tm) (x : C) : splice (teC t) 0 [x] = [x, .sc (.string (t.name)), .sc (.int .i64 (t.num)), .sc (.int .i64 (t.type).kind), .sl (tyR (t.type).kids), .sc (.int .i64 (t.frm).kind), .sl (tyR (t.frm).kids), .sc (.int .i64 (t.label)), .sl (teR (t.kids))] := by rw [teC_eq]; rfl
@[go_sem] theorem teC_splice1 (t : Tm) (x : C) : splice (teC t) 1 [x] = [.sc (.int .i64 (t.kind)), x, .sc (.int .i64 (t.num)), .sc (.int .i64 (t.type).kind), .sl (tyR (t.type).kids), .sc (.int .i64 (t.frm).kind), .sl (tyR (t.frm).kids), .sc (.int .i64 (t.label)), .sl (teR (t.kids))] := by rw [teC_eq]; rfl
@[go_sem] theorem teC_splice2 (t : Tm) (x : C) : splice (teC t) 2 [x] = [.sc (.int .i64 (t.kind)), .sc (.string (t.name)), x, .sc (.int .i64 (t.type).kind), .sl (tyR (t.type).kids), .sc (.int .i64 (t.frm).kind), .sl (tyR (t.frm).kids), .sc (.int .i64 (t.label)), .sl (teR (t.kids))] := by rw [teC_eq]; rfl
@[go_sem] theorem teC_splice3 (t : Tm) (x : C) : splice (teC t) 3 [x] = [.sc (.int .i64 (t.kind)), .sc (.string (t.name)), .sc (.int .i64 (t.num)), x, .sl (tyR (t.type).kids), .sc (.int .i64 (t.frm).kind), .sl (tyR (t.frm).kids), .sc (.int .i64 (t.label)), .sl (teR (t.kids))] := by rw [teC_eq]; rfl
@[go_sem] theorem teC_splice4 (t : Tm) (x : C) : splice (teC t) 4 [x] = [.sc (.int .i64 (t.kind)), .sc (.string (t.name)), .sc (.int .i64 (t.num)), .sc (.int .i64 (t.type).kind), x, .sc (.int .i64 (t.frm).kind), .sl (tyR (t.frm).kids), .sc (.int .i64 (t.label)), .sl (teR (t.kids))] := by rw [teC_eq]; rfl
@[go_sem] theorem teC_splice5 (t : Tm) (x : C) : splice (teC t) 5 [x] = [.sc (.int .i64 (t.kind)), .sc (.string (t.name)), .sc (.int .i64 (t.num)), .sc (.int .i64 (t.type).kind), .sl (tyR (t.type).kids), x, .sl (tyR (t.frm).kids), .sc (.int .i64 (t.label)), .sl (teR (t.kids))] := by rw [teC_eq]; rfl
@[go_sem] theorem teC_splice6 (t : Tm) (x : C) : splice (teC t) 6 [x] = [.sc (.int .i64 (t.kind)), .sc (.string (t.name)), .sc (.int .i64 (t.num)), .sc (.int .i64 (t.type).kind), .sl (tyR (t.type).kids), .sc (.int .i64 (t.frm).kind), x, .sc (.int .i64 (t.label)), .sl (teR (t.kids))] := by rw [teC_eq]; rfl
@[go_sem] theorem teC_splice7 (t : Tm) (x : C) : splice (teC t) 7 [x] = [.sc (.int .i64 (t.kind)), .sc (.string (t.name)), .sc (.int .i64 (t.num)), .sc (.int .i64 (t.type).kind), .sl (tyR (t.type).kids), .sc (.int .i64 (t.frm).kind), .sl (tyR (t.frm).kids), x, .sl (teR (t.kids))] := by rw [teC_eq]; rfl
@[go_sem] theorem teC_splice8 (t : Tm) (x : C) : splice (teC t) 8 [x] = [.sc (.int .i64 (t.kind)), .sc (.string (t.name)), .sc (.int .i64 (t.num)), .sc (.int .i64 (t.type).kind), .sl (tyR (t.type).kids), .sc (.int .i64 (t.frm).kind), .sl (tyR (t.frm).kids), .sc (.int .i64 (t.label)), x] := by rw [teC_eq]; rfl
@[go_sem] theorem teC_splice3ty (t : Tm) (x y : C) : splice (teC t) 3 [x, y] = [.sc (.int .i64 (t.kind)), .sc (.string (t.name)), .sc (.int .i64 (t.num)), x, y, .sc (.int .i64 (t.frm).kind), .sl (tyR (t.frm).kids), .sc (.int .i64 (t.label)), .sl (teR (t.kids))] := by rw [teC_eq]; rfl
@[go_sem] theorem teC_splice3tyC (t : Tm) (u : Ty) : splice (teC t) 3 (tyC u) = teC (.mk t.kind t.name t.num u t.frm t.label t.kids) := by rw [teC_eq, tyC_eq]; rfl
@[go_sem] theorem teC_splice5ty (t : Tm) (x y : C) : splice (teC t) 5 [x, y] = [.sc (.int .i64 (t.kind)), .sc (.string (t.name)), .sc (.int .i64 (t.num)), .sc (.int .i64 (t.type).kind), .sl (tyR (t.type).kids), x, y, .sc (.int .i64 (t.label)), .sl (teR (t.kids))] := by rw [teC_eq]; rfl
@[go_sem] theorem teC_splice5tyC (t : Tm) (u : Ty) : splice (teC t) 5 (tyC u) = teC (.mk t.kind t.name t.num t.type u t.label t.kids) := by rw [teC_eq, tyC_eq]; rfl
@[go_sem] theorem teR_length (l : List Tm) : (teR l).length = l.length := by
  induction l with
  | nil => rfl
  | cons t l ih => simp [teR, ih]
theorem teR_get (l : List Tm) (i : Nat) : (teR l)[i]? = (l[i]?).map teC := by
  induction l generalizing i with
  | nil => simp [teR]
  | cons t l ih => cases i <;> simp [teR, ih]
/-- the k-th one -/
def teKid (l : List Tm) (k : Nat) : Tm := l.getD k (.mk 0 ByteArray.empty 0 (.mk 0 []) (.mk 0 []) 0 [])
theorem teKid_eq {l : List Tm} {k : Nat} (h : k < l.length) : teKid l k = l[k] := by simp [teKid, h]
@[go_sem] theorem teR_at (l : List Tm) (i : Nat) : (teR l)[i]? = match decide ((i : Int) < (l.length : Int)) with | true => some (teC (teKid l i)) | false => none := by
  rw [teR_get]
  by_cases h : i < l.length
  · have h' : (i : Int) < (l.length : Int) := by omega
    simp [h, h', teKid]
  · have h' : ¬ (i : Int) < (l.length : Int) := by omega
    simp [h, h']
theorem tetake_kid {l : List Tm} {k : Nat} (h : k < l.length) : l.take (k + 1) = l.take k ++ [teKid l k] := by
  rw [teKid_eq h, List.take_succ_eq_append_getElem h]
theorem tedrop_kid {l : List Tm} {k : Nat} (h : k < l.length) : l.drop k = teKid l k :: l.drop (k + 1) := by
  rw [teKid_eq h, List.drop_eq_getElem_cons h]
@[go_sem] theorem teR_tree (l : List Tm) : treeRows (teR l) = true := by
  induction l with
  | nil => rfl
  | cons t l ih => simp only [teR, treeRows_cons, teC_treeL, Bool.true_and]; exact ih
@[go_sem] theorem teR_len (l : List Tm) : rowsLen 9 (teR l) = true := by
  induction l with
  | nil => rfl
  | cons t l ih => simp only [teR, rowsLen_cons, teC_length, beq_self_eq_true, Bool.true_and]; exact ih
attribute [go_sem] teR
@[go_sem] theorem tekind_mk (x0 : Int) (x1 : ByteArray) (x2 : Int) (x3 : Ty) (x4 : Ty) (x5 : Int) (x6 : List Tm) : (Tm.mk x0 x1 x2 x3 x4 x5 x6).kind = x0 := rfl
@[go_sem] theorem tename_mk (x0 : Int) (x1 : ByteArray) (x2 : Int) (x3 : Ty) (x4 : Ty) (x5 : Int) (x6 : List Tm) : (Tm.mk x0 x1 x2 x3 x4 x5 x6).name = x1 := rfl
@[go_sem] theorem tenum_mk (x0 : Int) (x1 : ByteArray) (x2 : Int) (x3 : Ty) (x4 : Ty) (x5 : Int) (x6 : List Tm) : (Tm.mk x0 x1 x2 x3 x4 x5 x6).num = x2 := rfl
@[go_sem] theorem tetype_mk (x0 : Int) (x1 : ByteArray) (x2 : Int) (x3 : Ty) (x4 : Ty) (x5 : Int) (x6 : List Tm) : (Tm.mk x0 x1 x2 x3 x4 x5 x6).type = x3 := rfl
@[go_sem] theorem tefrm_mk (x0 : Int) (x1 : ByteArray) (x2 : Int) (x3 : Ty) (x4 : Ty) (x5 : Int) (x6 : List Tm) : (Tm.mk x0 x1 x2 x3 x4 x5 x6).frm = x4 := rfl
@[go_sem] theorem telabel_mk (x0 : Int) (x1 : ByteArray) (x2 : Int) (x3 : Ty) (x4 : Ty) (x5 : Int) (x6 : List Tm) : (Tm.mk x0 x1 x2 x3 x4 x5 x6).label = x5 := rfl
@[go_sem] theorem tekids_mk (x0 : Int) (x1 : ByteArray) (x2 : Int) (x3 : Ty) (x4 : Ty) (x5 : Int) (x6 : List Tm) : (Tm.mk x0 x1 x2 x3 x4 x5 x6).kids = x6 := rfl
end Go.Proofs.Sh
/- Owned types and terms. -/
namespace Go.Proofs.Sh
open Go.RowKit Go.Proofs.Grad

theorem ow_sc {h : List Blk} {d : Nat} {c : C} {v : Value} {ids : List Nat} (hv : v ≠ .slice none 0 0) (e : ow h d c = some (.sc v, ids)) : c = .sc v ∧ ids = [] := by
  cases c with
  | row s b n => obtain ⟨_, _, _, _, _, _, _, _, _, _, _, h, _⟩ := ow_row e; cases h
  | _ =>
    rw [ow_leaf (by simp)] at e
    obtain ⟨rfl, ⟨h1, h2⟩ | ⟨v, h1, _, h2⟩ | ⟨h1, h2⟩⟩ := leaf_cases e
    · cases h2
    · cases h2; exact ⟨h1, rfl⟩
    · cases h2
theorem fzL_cons {f : C → Option (C × List Nat)} {cs : List C} {x : C} {xs : List C} {ids : List Nat} (e : fzL f cs = some (x :: xs, ids)) : ∃ c cs' i j, cs = c :: cs' ∧ f c = some (x, i) ∧ fzL f cs' = some (xs, j) ∧ ids = i ++ j := by
  cases cs with
  | nil => simp [fzL] at e
  | cons c cs' =>
    simp only [fzL] at e
    split at e
    · rename_i c1 i c2 j h1 h2
      simp only [Option.some.injEq, Prod.mk.injEq, List.cons.injEq] at e
      obtain ⟨⟨rfl, rfl⟩, rfl⟩ := e
      exact ⟨c, cs', i, j, rfl, h1, h2, rfl⟩
    · cases e
theorem fzL_nil {f : C → Option (C × List Nat)} {cs : List C} {ids : List Nat} (e : fzL f cs = some ([], ids)) : cs = [] ∧ ids = [] := by
  cases cs with
  | nil => simp only [fzL, Option.some.injEq, Prod.mk.injEq] at e; exact ⟨rfl, e.2.symm⟩
  | cons c cs' =>
    simp only [fzL] at e
    split at e
    · simp at e
    · cases e
theorem owL_ty {h : List Blk} {d : Nat} {cs : List C} {t : Ty} {ids : List Nat} (e : fzL (ow h d) cs = some (tyC t, ids)) : ∃ c, cs = [.sc (.int .i64 t.kind), c] ∧ ow h d c = some (.sl (tyR t.kids), ids) := by
  rw [tyC_eq] at e
  obtain ⟨c0, cs1, i0, j0, rfl, e0, f0, rfl⟩ := fzL_cons e
  obtain ⟨c1, cs2, i1, j1, rfl, e1, f1, rfl⟩ := fzL_cons f0
  obtain ⟨rfl, rfl⟩ := fzL_nil f1
  obtain ⟨rfl, rfl⟩ := ow_sc (by simp) e0
  exact ⟨c1, rfl, by simpa using e1⟩
/-- a term's cells: the cells of its types' and its own operands -/
def teO (t : Tm) (c1 c2 c3 : C) : List C := [.sc (.int .i64 t.kind), .sc (.string t.name), .sc (.int .i64 t.num), .sc (.int .i64 t.type.kind), c1, .sc (.int .i64 t.frm.kind), c2, .sc (.int .i64 t.label), c3]
@[go_sem] theorem teO_length (t : Tm) (c1 c2 c3 : C) : (teO t c1 c2 c3).length = 9 := rfl
end Go.Proofs.Sh
namespace Go.Proofs.Grad
end Go.Proofs.Grad
namespace Go.Proofs.Sh
open Go.RowKit Go.Proofs.Grad
end Go.Proofs.Sh
