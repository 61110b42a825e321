/- Texts of the proof, one behind another. -/
import Derived.Laws.Strings
import Derived.Test.YtnaebafafhamjaaGreatK4
import Derived.Test.YtnaebafafhamjaaGreatK5
set_option linter.unusedSimpArgs false
set_option linter.unusedVariables false
/- Owned trees: slices that grow, in a state of which the first blocks are known. -/
namespace Go.Proofs.Sh
open Go.RowKit

@[go_sem] theorem app_len {α : Type} (T : List α) (x : α) : (T ++ [x])[T.length]? = some x := by simp
@[go_sem] theorem app_len1 {α : Type} (T : List α) (x y : α) : (T ++ [x, y])[T.length]? = some x := by simp
@[go_sem] theorem app_len2 {α : Type} (T : List α) (x y : α) : (T ++ [x, y])[T.length + 1]? = some y := by simp
@[go_sem] theorem set_len {α : Type} (T : List α) (x y : α) : (T ++ [x]).set T.length y = T ++ [y] := by simp
@[go_sem] theorem set_len1 {α : Type} (T : List α) (x y z : α) : (T ++ [x, z]).set T.length y = T ++ [y, z] := by simp
@[go_sem] theorem set_len2 {α : Type} (T : List α) (x y z : α) : (T ++ [x, z]).set (T.length + 1) y = T ++ [x, y] := by simp
@[go_sem] theorem app_lenA {α : Type} (T : List α) (x y : α) : (T ++ [x] ++ [y])[T.length]? = some x := by simp
@[go_sem] theorem app_lenB {α : Type} (T : List α) (x y : α) : (T ++ [x] ++ [y])[T.length + 1]? = some y := by simp
@[go_sem] theorem set_lenA {α : Type} (T : List α) (x y z : α) : (T ++ [x] ++ [y]).set T.length z = T ++ [z] ++ [y] := by simp
@[go_sem] theorem set_lenB {α : Type} (T : List α) (x y z : α) : (T ++ [x] ++ [y]).set (T.length + 1) z = T ++ [x] ++ [z] := by simp
theorem get_app {α : Type} {T : List α} {j : Nat} {x : α} (h : T[j]? = some x) (U : List α) : (T ++ U)[j]? = some x := by
  rw [List.getElem?_append_left (List.getElem?_eq_some_iff.1 h).1]; exact h
theorem pre_split (pre : List Blk) {T h' : List Blk} (h1 : (pre ++ T).length ≤ h'.length) (h2 : ∀ b, b < (pre ++ T).length → h'[b]? = (pre ++ T)[b]?) : ∃ T', h' = pre ++ T' ∧ T.length ≤ T'.length ∧ ∀ i, i < T.length → T'[i]? = T[i]? := by
  refine ⟨h'.drop pre.length, ?_, by simp only [List.length_append, List.length_drop] at *; omega, fun i hi => ?_⟩
  · apply List.ext_getElem?
    intro i
    by_cases hi : i < pre.length
    · rw [h2 i (by simp; omega), List.getElem?_append_left hi, List.getElem?_append_left hi]
    · rw [List.getElem?_append_right (by omega), List.getElem?_drop]; congr 1; omega
  · rw [List.getElem?_drop, h2 _ (by simp; omega), List.getElem?_append_right (by omega)]; congr 1; omega
theorem pre1 {a : Blk} {T h' : List Blk} (h1 : (a :: T).length ≤ h'.length) (h2 : ∀ i, i < (a :: T).length → h'[i]? = (a :: T)[i]?) : ∃ T', h' = a :: T' ∧ T.length ≤ T'.length ∧ ∀ i, i < T.length → T'[i]? = T[i]? := pre_split [a] h1 h2
theorem pre2 {a b : Blk} {T h' : List Blk} (h1 : (a :: b :: T).length ≤ h'.length) (h2 : ∀ i, i < (a :: b :: T).length → h'[i]? = (a :: b :: T)[i]?) : ∃ T', h' = a :: b :: T' ∧ T.length ≤ T'.length ∧ ∀ i, i < T.length → T'[i]? = T[i]? := pre_split [a, b] h1 h2
theorem pre3 {a b c : Blk} {T h' : List Blk} (h1 : (a :: b :: c :: T).length ≤ h'.length) (h2 : ∀ i, i < (a :: b :: c :: T).length → h'[i]? = (a :: b :: c :: T)[i]?) : ∃ T', h' = a :: b :: c :: T' ∧ T.length ≤ T'.length ∧ ∀ i, i < T.length → T'[i]? = T[i]? := pre_split [a, b, c] h1 h2

/-- the slice cell c: rows R, owned, in T, which lies behind p blocks -/
def Grown (s ty p : Nat) (R : List (List C)) (c : C) (T : List Blk) : Prop :=
  (R = [] ∧ c = .sc (.slice none 0 0)) ∨ ∃ j rows d js, 0 < R.length ∧ c = .row s (j + p) R.length ∧ T[j]? = some ⟨s, ty, .mut, rows⟩ ∧ rows.length = R.length ∧ rowsLen s rows = true ∧ (∀ pre : List Blk, pre.length = p → ow (pre ++ T) d c = some (.sl R, js)) ∧ js.Nodup ∧ ∀ b ∈ js, p ≤ b
theorem ow_pre {pre pre' T T' : List Blk} {d : Nat} {c c' : C} {ids : List Nat} (hp : pre.length = pre'.length) (hf : ∀ i, i < T.length → T'[i]? = T[i]?) (e : ow (pre ++ T) d c = some (c', ids)) (hge : ∀ b ∈ ids, pre.length ≤ b) : ow (pre' ++ T') d c = some (c', ids) :=
  ow_frame e (fun b hb => by
    have h1 := hge b hb
    have h2 := (ow_mut e b hb).lt
    rw [List.length_append] at h2
    rw [List.getElem?_append_right (by omega), List.getElem?_append_right h1, hf _ (by omega)]
    congr 1; omega)
theorem owL_pre {pre pre' T T' : List Blk} {d : Nat} {c c' : List C} {ids : List Nat} (hp : pre.length = pre'.length) (hf : ∀ i, i < T.length → T'[i]? = T[i]?) (e : fzL (ow (pre ++ T) d) c = some (c', ids)) (hge : ∀ b ∈ ids, pre.length ≤ b) : fzL (ow (pre' ++ T') d) c = some (c', ids) :=
  owL_frame e (fun b hb => by
    have h1 := hge b hb
    have h2 := (owL_mut e b hb).lt
    rw [List.length_append] at h2
    rw [List.getElem?_append_right (by omega), List.getElem?_append_right h1, hf _ (by omega)]
    congr 1; omega)
/-- one more row is appended -/
theorem Grown.more {s ty p d : Nat} {R : List (List C)} {c : C} {T T' pre : List Blk} {cs enc : List C} {ids : List Nat} (hG : Grown s ty p R c T) (hp : pre.length = p) (hT : T.length ≤ T'.length) (hf : ∀ i, i < T.length → T'[i]? = T[i]?)
    (e : fzL (ow (pre ++ T') d) cs = some (enc, ids)) (hl : cs.length = s) (hn : ids.Nodup) (hge : ∀ b ∈ ids, p + T.length ≤ b) :
    (c = .sc (.slice none 0 0) ∧ R = [] ∧ ∀ y, Grown s ty p (R ++ [enc]) (.row s (T'.length + 1 + p) 1) (T' ++ [y] ++ [⟨s, ty, .mut, [cs]⟩])) ∨
    ∃ j rows, c = .row s (j + p) R.length ∧ 0 < R.length ∧ T'[j]? = some ⟨s, ty, .mut, rows⟩ ∧ rows.length = R.length ∧ rowsLen s rows = true ∧ ∀ y, Grown s ty p (R ++ [enc]) (.row s (T'.length + 1 + p) (R.length + 1)) ((T' ++ [y]).set j ⟨s, ty, .dead, []⟩ ++ [⟨s, ty, .mut, rows ++ [cs]⟩]) := by
  have hgp : ∀ b ∈ ids, pre.length ≤ b := fun b hb => by have := hge b hb; omega
  rcases hG with ⟨hR, hc⟩ | ⟨j, rows, d0, js, hpos, hc, hj, hrl, hrs, how, hnd, hjs⟩
  · subst hR hc
    refine .inl ⟨rfl, rfl, fun y => .inr ⟨T'.length + 1, [cs], d + 1, (T'.length + 1 + p) :: ids, by simp, rfl, by rw [List.getElem?_append_right (by simp)]; simp, rfl, by simp [rowsLen, hl], fun pre' hp' => ?_, ?_, ?_⟩⟩
    · have e' := owL_pre (pre' := pre') (T' := T') (by omega) (fun _ _ => rfl) e hgp
      have := (own_grow0 (ty := ty) (y := y) e' hl hn (fun b hb => (owL_mut e' b hb).lt)).1
      rw [List.length_append, hp', show p + T'.length + 1 = T'.length + 1 + p from by omega] at this
      simpa only [List.append_assoc, List.nil_append] using this
    · refine List.nodup_cons.2 ⟨fun hm => ?_, hn⟩
      have := (owL_mut e _ hm).lt
      rw [List.length_append] at this; omega
    · intro b hb
      rcases List.mem_cons.1 hb with rfl | hb
      · omega
      · have := hge b hb; omega
  · subst hc
    have hjl := (List.getElem?_eq_some_iff.1 hj).1
    have hj' : T'[j]? = some ⟨s, ty, .mut, rows⟩ := by rw [hf j hjl]; exact hj
    refine .inr ⟨j, rows, rfl, hpos, hj', hrl, hrs, fun y => ?_⟩
    have key : ∀ pre' : List Blk, pre'.length = p → ∃ d3 is, ow (pre' ++ ((T' ++ [y]).set j ⟨s, ty, .dead, []⟩ ++ [⟨s, ty, .mut, rows ++ [cs]⟩])) d3 (.row s (T'.length + 1 + p) (R.length + 1)) = some (.sl (R ++ [enc]), (T'.length + 1 + p) :: is) ∧ ((T'.length + 1 + p) :: is).Nodup ∧ ∀ x ∈ is, x ∈ js ++ ids := fun pre' hp' => by
      have e0 := ow_pre (pre' := pre') (T' := T') (by omega) hf (how pre hp) (fun b hb => by have := hjs b hb; omega)
      have e1 := owL_pre (pre' := pre') (T' := T') (by omega) (fun _ _ => rfl) e hgp
      have hkk : (pre' ++ T')[j + p]? = some ⟨s, ty, .mut, rows⟩ := by rw [List.getElem?_append_right (by omega), ← hj']; congr 1; omega
      obtain ⟨d3, is, h1, h2, h3⟩ := own_grow (ty := ty) (y := y) e0 hkk e1 hl (by
        refine List.nodup_append.2 ⟨hnd, hn, fun a ha b hb hab => ?_⟩
        subst hab
        have h1 := (ow_mut (how pre hp) a ha).lt
        rw [List.length_append] at h1
        have := hge a hb; omega)
      rw [List.length_append, hp', show p + T'.length + 1 = T'.length + 1 + p from by omega] at h1 h2
      refine ⟨d3, is, ?_, h2, h3⟩
      rw [List.append_assoc, List.set_append_right _ _ (by omega), show j + p - pre'.length = j from by omega, List.append_assoc] at h1
      exact h1
    obtain ⟨d3, is, h1, h2, h3⟩ := key pre hp
    have hise : ∀ x ∈ (T'.length + 1 + p) :: is, p ≤ x := fun x hx => by
      rcases List.mem_cons.1 hx with rfl | hx
      · omega
      · rcases List.mem_append.1 (h3 x hx) with hx | hx
        · exact hjs x hx
        · have := hge x hx; omega
    refine .inr ⟨T'.length + 1, rows ++ [cs], d3, _, by simp, by simp, by rw [List.getElem?_append_right (by simp)]; simp, by simp [hrl], by rw [rowsLen_append, hrs]; simp [rowsLen, hl], fun pre' hp' => ?_, h2, hise⟩
    have h4 := ow_pre (pre' := pre') (T' := (T' ++ [y]).set j ⟨s, ty, .dead, []⟩ ++ [⟨s, ty, .mut, rows ++ [cs]⟩]) (by omega) (fun _ _ => rfl) h1 (fun b hb => by have := hise b hb; omega)
    simpa using h4

/-- a struct's cells are handed back with the blocks of their trees -/
theorem ret_ownK {P : Program} {rs : List ResultVar} {s : ASt} {d : Nat} {cs enc : List C} {ids : List Nat} {F : List C → AV} (h : aresult P s rs = some (F cs)) (e : fzL (ow s.h d) cs = some (enc, ids)) (hn : ids.Nodup) (hF : ∀ cs', prL false s.h ids cs = some (cs', []) → prVs false s.h ids [F cs] = some ([F cs'], [])) : ARet P rs 0 (OwnK enc F) s := by
  obtain ⟨r', H', h1, q1, q2⟩ := own_ret e hn hF
  exact ret_own ids h (by simpa using q1) q2
theorem prVs_agg {h : List Blk} {ids : List Nat} {cs cs' : List C} (e : prL false h ids cs = some (cs', [])) : prVs false h ids [.agg cs] = some ([.agg cs'], []) := by simp only [prVs, prV, e, List.append_nil]
theorem ren_agg (cs : List C) (g : Nat → Nat) : (AV.agg cs).ren g = .agg (cs.map (C.ren g)) := by simp only [AV.ren, renA_map]
/-- the whole of a slice that has grown -/
theorem Grown.ow {s ty p : Nat} {R : List (List C)} {c : C} {T : List Blk} (hG : Grown s ty p R c T) : ∃ d js, (∀ pre : List Blk, pre.length = p → ow (pre ++ T) d c = some (.sl R, js)) ∧ js.Nodup ∧ ∀ b ∈ js, p ≤ b := by
  rcases hG with ⟨rfl, rfl⟩ | ⟨j, rows, d0, js, hpos, rfl, hj, hrl, hrs, how, hnd, hjs⟩
  · exact ⟨0, [], fun _ _ => rfl, List.nodup_nil, by simp⟩
  · exact ⟨d0, js, how, hnd, hjs⟩
theorem ow_int {h : List Blk} {d : Nat} {k : IntKind} {n : Int} : Sh.ow h d (.sc (.int k n)) = some (.sc (.int k n), []) := by rw [ow_leaf (by simp)]; rfl
theorem ow_str {h : List Blk} {d : Nat} {n : ByteArray} : Sh.ow h d (.sc (.string n)) = some (.sc (.string n), []) := by rw [ow_leaf (by simp)]; rfl
theorem owL_two {h : List Blk} {d : Nat} {k : IntKind} {n : Int} {c c' : C} {js : List Nat} (e : Sh.ow h d c = some (c', js)) : fzL (Sh.ow h d) [.sc (.int k n), c] = some ([.sc (.int k n), c'], js) := by
  simp only [fzL, ow_int, e, List.append_nil, List.nil_append]

/-! ### a slice that is made whole and filled row by row -/
/-- rows of which those of R are there, owned, in T, which lies behind p blocks; m more are as z says -/
def Filled (s p : Nat) (R : List (List C)) (m : Nat) (z : List C) (rows : List (List C)) (T : List Blk) : Prop :=
  ∃ rs d js, rows = rs ++ List.replicate m z ∧ rowsLen s rs = true ∧ rs.length = R.length ∧ (∀ pre : List Blk, pre.length = p → fzRows (ow (pre ++ T) d) rs = some (R, js)) ∧ js.Nodup ∧ ∀ b ∈ js, p ≤ b
theorem Filled.zero {s p m : Nat} {z : List C} : Filled s p [] m z (List.replicate m z) [] := ⟨[], 0, [], rfl, rfl, rfl, fun _ _ => rfl, List.nodup_nil, by simp⟩
theorem Filled.get {s p m : Nat} {R : List (List C)} {z : List C} {rows : List (List C)} {T : List Blk} (h : Filled s p R (m + 1) z rows T) : rows[R.length]? = some z := by
  obtain ⟨rs, d, js, rfl, h2, h3, h4, h5, h6⟩ := h
  rw [← h3, List.getElem?_append_right (Nat.le_refl _)]
  simp
theorem owR_pre {pre pre' T T' : List Blk} {d : Nat} {c c' : List (List C)} {ids : List Nat} (hp : pre.length = pre'.length) (hf : ∀ i, i < T.length → T'[i]? = T[i]?) (e : fzRows (ow (pre ++ T) d) c = some (c', ids)) (hge : ∀ b ∈ ids, pre.length ≤ b) : fzRows (ow (pre' ++ T') d) c = some (c', ids) :=
  owR_frame e (fun b hb => by
    have h1 := hge b hb
    have h2 := (owR_mut e b hb).lt
    rw [List.length_append] at h2
    rw [List.getElem?_append_right (by omega), List.getElem?_append_right h1, hf _ (by omega)]
    congr 1; omega)
theorem Filled.next {s p m d : Nat} {R : List (List C)} {z : List C} {rows : List (List C)} {T T' pre : List Blk} {cs enc : List C} {ids : List Nat} (h : Filled s p R (m + 1) z rows T) (hp : pre.length = p) (hf : ∀ i, i < T.length → T'[i]? = T[i]?)
    (e : fzL (ow (pre ++ T') d) cs = some (enc, ids)) (hl : cs.length = s) (hn : ids.Nodup) (hge : ∀ b ∈ ids, p + T.length ≤ b) : Filled s p (R ++ [enc]) m z (rows.set R.length cs) T' := by
  obtain ⟨rs, d0, js, rfl, h2, h3, h4, h5, h6⟩ := h
  refine ⟨rs ++ [cs], max d0 d, js ++ ids, ?_, by rw [rowsLen_append, h2]; simp [rowsLen, hl], by simp [h3], fun pre' hp' => ?_, ?_, ?_⟩
  · rw [← h3, List.set_append_right _ _ (Nat.le_refl _)]
    simp [List.replicate_succ]
  · refine fzRows_app (owR_le (Nat.le_max_left _ _) (owR_pre (pre := pre') (by omega) hf (h4 pre' hp') (fun b hb => by have := h6 b hb; omega))) ?_
    have := owL_le (Nat.le_max_right d0 d) (owL_pre (pre' := pre') (T' := T') (by omega) (fun _ _ => rfl) e (fun b hb => by have := hge b hb; omega))
    simp only [fzRows, this, List.append_nil]
  · refine List.nodup_append.2 ⟨h5, hn, fun a ha b hb hab => ?_⟩
    subst hab
    have h1 := (owR_mut (h4 pre hp) a ha).lt
    rw [List.length_append] at h1
    have := hge a hb; omega
  · intro b hb
    rcases List.mem_append.1 hb with hb | hb
    · exact h6 b hb
    · have := hge b hb; omega
theorem Filled.all {s p b n : Nat} {R : List (List C)} {z : List C} {rows : List (List C)} {T pre : List Blk} {k : Blk} (h : Filled s p R 0 z rows T) (hp : pre.length = p) (hb : b < p) (hk : pre[b]? = some k) (hr : k.rows = rows) (hs : k.s = s) (hm : k.st.isMut = true) (hn : n = R.length) : ∃ d js, ow (pre ++ T) d (.row s b n) = some (.sl R, b :: js) ∧ (b :: js).Nodup := by
  obtain ⟨rs, d0, js, rfl, h2, h3, h4, h5, h6⟩ := h
  simp only [List.replicate_zero, List.append_nil] at hr
  refine ⟨d0 + 1, js, ow_row_of (k := k) (by rw [List.getElem?_append_left (by omega)]; exact hk) hm (by rw [hr, h3, hn]) hs.symm (by rw [hr]; exact h2) (by rw [hr]; exact h4 pre hp), List.nodup_cons.2 ⟨fun hm => ?_, h5⟩⟩
  have := h6 b hm; omega

/-- one cell as a value -/
def one1 (cs : List C) : AV := .one (cs.getD 0 .top)
theorem one1_flat (cs : List C) (h : cs.all C.flat = true) : (one1 cs).flat = true := by
  cases cs with
  | nil => rfl
  | cons c cs => simp only [List.all_cons, Bool.and_eq_true] at h; exact h.1
theorem one1_ren (cs : List C) (g : Nat → Nat) : (one1 cs).ren g = one1 (cs.map (C.ren g)) := by
  cases cs <;> rfl
theorem prVs_one1 {h : List Blk} {ids : List Nat} {c : C} {d : Nat} {enc : List C} (e : fzL (Sh.ow h d) [c] = some (enc, ids)) (cs' : List C) (ep : prL false h ids [c] = some (cs', [])) : prVs false h ids [one1 [c]] = some ([one1 cs'], []) := by
  obtain ⟨x, i, h1, h2⟩ : ∃ x i, Sh.ow h d c = some (x, i) ∧ i = ids := by
    simp only [fzL] at e
    split at e
    · rename_i c1 i c2 j h1 h2
      simp only [Option.some.injEq, Prod.mk.injEq] at e h2
      exact ⟨c1, i, h1, by rw [← e.2, ← h2.2]; simp⟩
    · cases e
  subst h2
  have h3 := prC_ow (ks := i) h1 (fun _ h => h)
  have h4 := prL_ow e (fun _ h => h)
  rw [h4] at ep
  simp only [Option.some.injEq, Prod.mk.injEq, and_true] at ep
  subst ep
  simp only [prVs, prV, one1, List.getD_cons_zero, h3, List.append_nil, List.map_cons, List.map_nil]
theorem owL_one {h : List Blk} {d : Nat} {c c' : C} {js : List Nat} (e : Sh.ow h d c = some (c', js)) : fzL (Sh.ow h d) [c] = some ([c'], js) := by
  simp only [fzL, e, List.append_nil]
end Go.Proofs.Sh
/- Types: copies that are owned, in the program. On shadows. -/
namespace Go.Proofs.YtnaebafafhamjaaGreat
open Go.RowKit Go.Proofs.Sh Go.Proofs.Grad
set_option maxRecDepth 100000
set_option maxHeartbeats 4000000
theorem iOwnTyO (n : Nat) (hn : n ≤ 4398046511104) : ∀ t : Ty, t.size < n → ACl Tryz.prog 57 [.agg (tyC t)] [] (OwnK (tyC t) .agg) := by
  induction n with
  | zero => intro t h; omega
  | succ n ih =>
    intro t h
    have hl : t.kids.length < 4398046511104 := by have := Ty.length_le_sizes t.kids; cases t; simp only [Ty.size, Ty.kids] at *; omega
    refine acl_in Tryz.func57 rfl isfn_57 (Nat.le_of_ble_eq_true rfl) (fun R hR => ?_); rw [Tryz.results57] at hR; refine wg_run ?_; (simp only [Tryz.f57, go_sem])
    refine wd_for (σ := Nat × C × List Blk) [2, 3, 10, 11, 12] (fun x => [.one (.ptr 2 1 0 0), .one (.ptr 2 2 0 0), .one (.sl (tyR t.kids)), .one (.sc (.int .i64 t.kids.length)), .one (.sc (.int .i64 (x.1 : Nat)))])
      (fun x => ⟨2, 25, .mut, [tyC t]⟩ :: ⟨2, 25, .mut, [[.sc (.int .i64 0), .sc (.slice none 0 0)]]⟩ :: ⟨2, 25, .mut, [[.sc (.int .i64 t.kind), x.2.1]]⟩ :: x.2.2)
      (fun x => x.1 ≤ t.kids.length ∧ Grown 2 25 3 (tyR (t.kids.take x.1)) x.2.1 x.2.2) (fun x => t.kids.length - x.1) (0, .sc (.slice none 0 0), []) ⟨Nat.zero_le _, .inl ⟨rfl, rfl⟩⟩ (head_all (by (simp only [go_sem]); first | done | rfl) ⟨rfl, rfl⟩) ?_
    rintro ⟨k, c, T⟩ ⟨hk, hI⟩ G hG
    simp only at hk hI hG ⊢
    refine wg_run ?_
    (simp only [go_sem])
    ((first | refine sp1 ?_ ?_ | refine sp2 ?_ ?_ | refine sp3 ?_ ?_ | refine sp4 ?_ ?_ | refine sp5 ?_ ?_ | refine sp6 ?_ ?_ | refine sp7 ?_ ?_) <;> intro hb) <;> (simp only [go_sem, hb])
    · have hk1 : k < t.kids.length := by have := of_decide_eq_true hb; omega
      repeat' (first | (first | (simp only [go_sem, hb]) | (((first | refine sp1 ?_ ?_ | refine sp2 ?_ ?_ | refine sp3 ?_ ?_ | refine sp4 ?_ ?_ | refine sp5 ?_ ?_ | refine sp6 ?_ ?_ | refine sp7 ?_ ?_) <;> intro hb) <;> (simp only [go_sem, hb, hb])) | ((first | refine wm_done ?_ | refine wt_done ?_ | refine wg_run ?_ | refine fk ?_ ?_) <;> (simp only [go_sem, hb]))) | ((first | refine mx 6 [] follows ?_ | refine mx 5 [] follows ?_ | refine mx 4 [] follows ?_ | refine mx 3 [] follows ?_ | refine mx 2 [] follows ?_ | refine mx 1 [] follows ?_ | refine mx 0 [] follows ?_ | fail); (simp only [go_sem, hb])))
      refine wm_any (acalls_own (.cons (.same (by (simp only [go_sem]); first | done | rfl)) .nil) (ih (by omega) (kid t.kids k) (by have := kid_lt hk1; omega)) (fun _ h => h) (fun _ _ => by simp only [AV.ren, renA_map])) (by (simp only [go_sem]); first | done | rfl) (by (simp only [go_sem]); first | done | rfl) ?_
      rintro _ h' ⟨cs, d, ids, rfl, e1, e2, e3, e4, e5⟩
      obtain ⟨T', rfl, f1, f2⟩ := pre3 e4 e5
      have hcs : cs.length = 2 := by rw [← fzL_len e1, tyC_length]
      have hlen : (t.kids.take k).length = k := by rw [List.length_take]; omega
      have hcap : (k + 1) * 32 ≤ 140737488355328 := by omega
      have hw1 : IntKind.i64.wrap (((k : Nat) : Int) + 1) = ((k + 1 : Nat) : Int) := wrap_succ hk1 (by omega)
      rcases hI.more (pre := [_, _, _]) rfl (Nat.le_trans (by simp) f1) (fun i hi => by rw [f2 i (by simp; omega), List.getElem?_append_left hi]) e1 hcs e2 (fun b hb => by have := (e3 b hb).1; simp at this; omega) with ⟨rfl, h0, hy⟩ | ⟨j, rows, rfl, hpos, hj, hrl, hrs, hy⟩
      · (simp only [go_sem, hcs])
        repeat' (first | (simp only [go_sem, hcs, hw1, hlen, hcap]) | (((first | refine sp1 ?_ ?_ | refine sp2 ?_ ?_ | refine sp3 ?_ ?_ | refine sp4 ?_ ?_ | refine sp5 ?_ ?_ | refine sp6 ?_ ?_ | refine sp7 ?_ ?_) <;> intro hb) <;> (simp only [go_sem, hb, hcs, hw1, hlen, hcap])) | ((first | refine wm_done ?_ | refine wt_done ?_ | refine wg_run ?_ | refine fk ?_ ?_) <;> (simp only [go_sem, hcs, hw1, hlen, hcap])))
        refine hG (k + 1, _, _) _ _ ⟨by omega, ?_⟩ (by simp only; omega) (head_all (by (simp only [go_sem]); first | done | rfl) ⟨rfl, rfl⟩)
        simp only [tyR_take hk1]
        exact hy _
      · have hj2 := fun U => get_app hj U
        rw [tyR_length, hlen] at hrl hpos hy
        (simp only [go_sem, hcs, hj2, hlen])
        repeat' (first | (simp only [go_sem, hcs, hw1, hlen, hcap, hj2, hrl, hrs]) | (((first | refine sp1 ?_ ?_ | refine sp2 ?_ ?_ | refine sp3 ?_ ?_ | refine sp4 ?_ ?_ | refine sp5 ?_ ?_ | refine sp6 ?_ ?_ | refine sp7 ?_ ?_) <;> intro hb) <;> (simp only [go_sem, hb, hcs, hw1, hlen, hcap, hj2, hrl, hrs])) | ((first | refine wm_done ?_ | refine wt_done ?_ | refine wg_run ?_ | refine fk ?_ ?_) <;> (simp only [go_sem, hcs, hw1, hlen, hcap, hj2, hrl, hrs])))
        refine hG (k + 1, _, _) _ _ ⟨by omega, ?_⟩ (by simp only; omega) (head_all (by (simp only [go_sem]); first | done | rfl) ⟨rfl, rfl⟩)
        simp only [tyR_take hk1]
        exact hy _
    · have hk1 : k = t.kids.length := by have := of_decide_eq_false hb; omega
      rw [hk1, List.take_length] at hI
      obtain ⟨d, js, h1, h2, h3⟩ := hI.ow
      refine hR _ (ret_ownK (d := d) (ids := js) (by (simp only [go_sem]); first | done | rfl) ?_ h2 (fun _ => prVs_agg))
      rw [tyC_eq]
      exact owL_two (h1 [_, _, _] rfl)
end Go.Proofs.YtnaebafafhamjaaGreat
/- Coercions as trees, and their pure functions. No program, no world. -/
namespace Go.Proofs.Grad

/-- coercions as they come -/
inductive Co where
  | mk (k tag label : Int) (kids : List Co)
def Co.kind : Co → Int | .mk k _ _ _ => k
def Co.tag : Co → Int | .mk _ t _ _ => t
def Co.label : Co → Int | .mk _ _ l _ => l
def Co.kids : Co → List Co | .mk _ _ _ l => l
mutual
def Co.size : Co → Nat
  | .mk _ _ _ l => 1 + Co.sizes l
def Co.sizes : List Co → Nat
  | [] => 0
  | t :: l => t.size + Co.sizes l
end
theorem Co.eta (c : Co) : c = .mk c.kind c.tag c.label c.kids := by cases c; rfl

/-- coercions that are valid but for depth and labels, where of a form -/
inductive K where
  | id (g : Int) | fn (a b : K) | pr (a b : K) | inj (c : K) | prj (l : Int) (c : K) | fail (l g : Int)
def K.co : K → Co
  | .id g => .mk 1 g 0 []
  | .fn a b => .mk 2 0 0 [a.co, b.co]
  | .pr a b => .mk 3 0 0 [a.co, b.co]
  | .inj c => .mk 4 0 0 [c.co]
  | .prj l c => .mk 5 0 l [c.co]
  | .fail l g => .mk 6 g l []
def K.plain : K → Bool
  | .fn _ _ => true | .pr _ _ => true | .id g => g != 1 | _ => false
def K.isAny : K → Bool
  | .id g => g == 1 | _ => false
def K.isPrj : K → Bool
  | .prj _ _ => true | _ => false
/-- a label -/
def lab (n : Int) : Bool := (decide (1 ≤ n) && decide (n ≤ 99)) || (decide (-99 ≤ n) && decide (n ≤ -1))
def K.wf : K → Bool
  | .id g => decide (1 ≤ g) && decide (g ≤ 3)
  | .fn a b => a.wf && b.wf
  | .pr a b => a.wf && b.wf
  | .inj c => c.plain && c.wf
  | .prj l c => lab l && !c.isPrj && !c.isAny && c.wf
  | .fail l g => lab l && decide (2 ≤ g) && decide (g ≤ 5)
def K.depth : K → Nat
  | .id _ => 1 | .fail _ _ => 1
  | .fn a b => max a.depth b.depth + 1
  | .pr a b => max a.depth b.depth + 1
  | .inj c => c.depth + 1
  | .prj _ c => c.depth + 1
def K.size : K → Nat
  | .id _ => 1 | .fail _ _ => 1
  | .fn a b => a.size + b.size + 1
  | .pr a b => a.size + b.size + 1
  | .inj c => c.size + 1
  | .prj _ c => c.size + 1
def K.tag : K → Int
  | .id g => g | .fn _ _ => 4 | .pr _ _ => 5 | .inj c => c.tag | .prj _ _ => 0 | .fail _ g => g
def K.height : K → Nat
  | .id _ => 1 | .fail _ _ => 1
  | .fn a b => max a.height b.height + 1
  | .pr a b => max a.height b.height + 1
  | .inj c => c.height
  | .prj _ c => c.height
def K.labels : K → List Int
  | .id _ => [] | .fail l _ => [l]
  | .fn a b => a.labels ++ b.labels
  | .pr a b => a.labels ++ b.labels
  | .inj c => c.labels
  | .prj l c => l :: c.labels
def K.ident : K → Bool
  | .id _ => true | .fn a b => a.ident && b.ident | .pr a b => a.ident && b.ident | _ => false
theorem K.size_pos (c : K) : 0 < c.size := by cases c <;> simp [K.size]
/-- first a, then b, where they fit -/
def K.comp (a b : K) : Option K :=
  match a, b with
  | .id g, b => if g = 1 then (if b.isPrj || b.isAny then some b else none) else
      match b with
      | .fail l t => if g = t then some (.fail l t) else none
      | .inj c => (K.comp (.id g) c).map .inj
      | .id g' => if g = g' then some (.id g) else none
      | _ => none
  | .prj l c, b => (K.comp c b).map (.prj l)
  | .fail l g, _ => some (.fail l g)
  | .inj c, .prj l d => if c.tag = d.tag then K.comp c d else some (.fail l c.tag)
  | .inj c, b => if b.isAny then some (.inj c) else none
  | .fn a1 a2, .fail l t => if t = 4 then some (.fail l t) else none
  | .pr a1 a2, .fail l t => if t = 5 then some (.fail l t) else none
  | .fn a1 a2, .inj c => (K.comp (.fn a1 a2) c).map .inj
  | .pr a1 a2, .inj c => (K.comp (.pr a1 a2) c).map .inj
  | .fn a1 a2, .fn b1 b2 => match K.comp b1 a1, K.comp a2 b2 with | some x, some y => some (.fn x y) | _, _ => none
  | .pr a1 a2, .pr b1 b2 => match K.comp a1 b1, K.comp a2 b2 with | some x, some y => some (.pr x y) | _, _ => none
  | _, _ => none
termination_by a.size + b.size
decreasing_by all_goals (simp only [K.size]; omega)

/-! ### Coercions as they come -/
mutual
def Co.same : Co → Co → Bool
  | .mk k t l a, .mk k' t' l' b => k == k' && (t == t' && (l == l' && Co.sames a b))
def Co.sames : List Co → List Co → Bool
  | [], [] => true
  | a :: l, b :: m => a.same b && Co.sames l m
  | _, _ => false
end
mutual
theorem Co.same_iff : ∀ a b : Co, a.same b = true ↔ a = b
  | .mk k t l a, .mk k' t' l' b => by simp [Co.same, Co.sames_iff a b]
theorem Co.sames_iff : ∀ a b : List Co, Co.sames a b = true ↔ a = b
  | [], [] => by simp [Co.sames]
  | [], _ :: _ => by simp [Co.sames]
  | _ :: _, [] => by simp [Co.sames]
  | a :: l, b :: m => by simp [Co.sames, Co.same_iff a b, Co.sames_iff l m]
end
theorem Co.same_refl (a : Co) : a.same a = true := (Co.same_iff a a).2 rfl
def Co.plain (c : Co) : Bool := c.kind == 2 || (c.kind == 3 || (c.kind == 1 && c.tag != 1))
def Co.okN (c : Co) : Bool :=
  match c with
  | .mk k t l ks =>
    if k = 1 then ks.length == 0 && (l == 0 && (decide (1 ≤ t) && decide (t ≤ 3)))
    else if k = 2 ∨ k = 3 then ks.length == 2 && (l == 0 && t == 0)
    else if k = 4 then (match ks with | [c] => l == 0 && (t == 0 && c.plain) | _ => false)
    else if k = 5 then (match ks with | [c] => lab l && (t == 0 && (c.kind != 5 && (c.kind != 1 || c.tag != 1))) | _ => false)
    else if k = 6 then ks.length == 0 && (lab l && (decide (2 ≤ t) && decide (t ≤ 5)))
    else false
def Co.shape : Nat → Co → Bool
  | 0, _ => false
  | d + 1, c => c.okN && c.kids.all (Co.shape d)
def Co.valid (c : Co) : Bool := c.shape 9

theorem K.co_plain (k : K) : k.co.plain = k.plain := by cases k <;> simp [K.co, Co.plain, Co.kind, Co.tag, K.plain]
theorem K.co_any (k : K) : (k.co.kind == 1 && k.co.tag == 1) = k.isAny := by cases k <;> simp [K.co, Co.kind, Co.tag, K.isAny]
theorem K.co_prj (k : K) : (k.co.kind == 5) = k.isPrj := by cases k <;> simp [K.co, Co.kind, K.isPrj]
theorem K.shape_co : ∀ (k : K) (d : Nat), k.co.shape d = (k.wf && decide (k.depth ≤ d))
  | k, 0 => by cases k <;> simp [Co.shape, K.depth]
  | .id g, d + 1 => by simp [K.co, Co.shape, Co.okN, Co.kids, K.wf, K.depth]
  | .fail l g, d + 1 => by simp [K.co, Co.shape, Co.okN, Co.kids, K.wf, K.depth, Bool.and_assoc]
  | .fn a b, d + 1 => by
    simp only [K.co, Co.shape, Co.okN, Co.kids, K.wf, K.depth, List.all_cons, List.all_nil, K.shape_co a d, K.shape_co b d]
    rw [Bool.eq_iff_iff]; simp; grind
  | .pr a b, d + 1 => by
    simp only [K.co, Co.shape, Co.okN, Co.kids, K.wf, K.depth, List.all_cons, List.all_nil, K.shape_co a d, K.shape_co b d]
    rw [Bool.eq_iff_iff]; simp; grind
  | .inj a, d + 1 => by
    simp only [K.co, Co.shape, Co.okN, Co.kids, K.wf, K.depth, List.all_cons, List.all_nil, K.shape_co a d, K.co_plain]
    rw [Bool.eq_iff_iff]; simp; grind
  | .prj l a, d + 1 => by
    have h1 := K.co_any a
    have h2 := K.co_prj a
    simp only [K.co, Co.shape, Co.okN, Co.kids, K.wf, K.depth, List.all_cons, List.all_nil, K.shape_co a d, ← h1, ← h2]
    rw [Bool.eq_iff_iff]; simp [bne]; grind
theorem Co.shape_K : ∀ (d : Nat) (c : Co), c.shape d = true → ∃ k : K, k.co = c ∧ k.wf = true ∧ k.depth ≤ d := by
  intro d
  induction d with
  | zero => intro c h; simp [Co.shape] at h
  | succ d ih =>
    intro c h
    obtain ⟨k, t, l, ks⟩ := c
    have h0 := h
    simp only [Co.shape, Bool.and_eq_true, Co.kids, List.all_eq_true] at h
    obtain ⟨h1, h2⟩ := h
    have fin : ∀ x : K, x.co = Co.mk k t l ks → ∃ k' : K, k'.co = Co.mk k t l ks ∧ k'.wf = true ∧ k'.depth ≤ d + 1 := by
      intro x hx
      rw [← hx, K.shape_co] at h0
      simp only [Bool.and_eq_true, decide_eq_true_eq] at h0
      exact ⟨x, hx, h0.1, h0.2⟩
    simp only [Co.okN] at h1
    split at h1
    · rename_i hk; simp at h1
      obtain ⟨rfl, rfl, _⟩ := h1
      subst hk
      exact fin (.id t) rfl
    · split at h1
      · rename_i hk; simp at h1
        obtain ⟨hl, rfl, rfl⟩ := h1
        obtain ⟨a, b, rfl⟩ : ∃ a b, ks = [a, b] := by
          match ks, hl with
          | [a, b], _ => exact ⟨a, b, rfl⟩
        obtain ⟨x, hx, _⟩ := ih a (h2 a (by simp))
        obtain ⟨y, hy, _⟩ := ih b (h2 b (by simp))
        rcases hk with rfl | rfl
        · exact fin (.fn x y) (by rw [K.co, hx, hy])
        · exact fin (.pr x y) (by rw [K.co, hx, hy])
      · split at h1
        · rename_i hk; subst hk
          split at h1
          · rename_i a; simp at h1
            obtain ⟨rfl, rfl, _⟩ := h1
            obtain ⟨x, hx, _⟩ := ih a (h2 a (by simp))
            exact fin (.inj x) (by rw [K.co, hx])
          · cases h1
        · split at h1
          · rename_i hk; subst hk
            split at h1
            · rename_i a; simp at h1
              obtain ⟨_, rfl, _⟩ := h1
              obtain ⟨x, hx, _⟩ := ih a (h2 a (by simp))
              exact fin (.prj l x) (by rw [K.co, hx])
            · cases h1
          · split at h1
            · rename_i hk; subst hk
              simp at h1
              obtain ⟨rfl, _⟩ := h1
              exact fin (.fail l t) rfl
            · cases h1
theorem Co.valid_iff (c : Co) : c.valid = true ↔ ∃ k : K, k.co = c ∧ k.wf = true ∧ k.depth ≤ 9 :=
  ⟨Co.shape_K 9 c, fun ⟨k, e, h1, h2⟩ => by rw [← e, Co.valid, K.shape_co, h1]; simpa using h2⟩
end Go.Proofs.Grad
/- Relations on types that are valid. No program, no world. -/
namespace Go.Proofs.Grad
open Classical in
/-- the relation, where both types are valid -/
noncomputable def onT (R : T → T → Bool) (a b : Ty) : Bool := decide (∃ x y : T, x.ty = a ∧ y.ty = b ∧ x.depth ≤ 4 ∧ y.depth ≤ 4 ∧ R x y = true)

open Classical in
theorem onT_ty (R : T → T → Bool) {x y : T} (hx : x.depth ≤ 4) (hy : y.depth ≤ 4) : onT R x.ty y.ty = R x y := by
  unfold onT
  rw [Bool.eq_iff_iff, decide_eq_true_iff]
  constructor
  · rintro ⟨x', y', h1, h2, _, _, h⟩
    rw [← T.ty_inj _ _ h1, ← T.ty_inj _ _ h2]; exact h
  · intro h; exact ⟨x, y, rfl, rfl, hx, hy, h⟩
open Classical in
theorem onT_off (R : T → T → Bool) {a b : Ty} (h : (a.valid && b.valid) = false) : onT R a b = false := by
  unfold onT
  rw [decide_eq_false_iff_not]
  rintro ⟨x, y, rfl, rfl, hx, hy, _⟩
  simp [Ty.valid, T.shape_ty, hx, hy] at h
theorem onT_and (R : T → T → Bool) (a b : Ty) : onT R a b = (a.valid && (b.valid && onT R a b)) := by
  cases ha : a.valid
  · rw [onT_off R (by simp [ha])]; rfl
  · cases hb : b.valid
    · rw [onT_off R (by simp [hb])]; rfl
    · rfl
end Go.Proofs.Grad
/- Terms as trees, their checks and their forms. No program, no world. -/
namespace Go.Proofs.Grad

/-- terms as they come -/
inductive Tm where
  | mk (kind : Int) (name : ByteArray) (num : Int) (type frm : Ty) (label : Int) (kids : List Tm)
def Tm.kind : Tm → Int | .mk k _ _ _ _ _ _ => k
def Tm.name : Tm → ByteArray | .mk _ n _ _ _ _ _ => n
def Tm.num : Tm → Int | .mk _ _ n _ _ _ _ => n
def Tm.type : Tm → Ty | .mk _ _ _ t _ _ _ => t
def Tm.frm : Tm → Ty | .mk _ _ _ _ t _ _ => t
def Tm.label : Tm → Int | .mk _ _ _ _ _ l _ => l
def Tm.kids : Tm → List Tm | .mk _ _ _ _ _ _ l => l
theorem Tm.eta (t : Tm) : t = .mk t.kind t.name t.num t.type t.frm t.label t.kids := by cases t; rfl
mutual
def Tm.size : Tm → Nat
  | .mk _ _ _ t f _ l => 1 + (t.size + f.size + Tm.sizes l)
def Tm.sizes : List Tm → Nat
  | [] => 0
  | t :: l => t.size + Tm.sizes l
end
mutual
def Tm.nodes : Tm → Nat
  | .mk _ _ _ _ _ _ l => 1 + Tm.nodess l
def Tm.nodess : List Tm → Nat
  | [] => 0
  | t :: l => t.nodes + Tm.nodess l
end
mutual
theorem Tm.nodes_le : ∀ t : Tm, t.nodes ≤ t.size
  | .mk _ _ _ _ _ _ l => by have := Tm.nodess_le l; simp only [Tm.nodes, Tm.size]; omega
theorem Tm.nodess_le : ∀ l : List Tm, Tm.nodess l ≤ Tm.sizes l
  | [] => Nat.le_refl _
  | t :: l => by have := Tm.nodes_le t; have := Tm.nodess_le l; simp only [Tm.nodess, Tm.sizes]; omega
end
theorem Tm.nodes_eq (t : Tm) : t.nodes = 1 + Tm.nodess t.kids := by cases t; simp only [Tm.nodes, Tm.kids]
theorem bytes_ext {a b : ByteArray} (h : a.toList = b.toList) : a = b := by
  rw [Go.ByteArray.toList_eq, Go.ByteArray.toList_eq] at h
  obtain ⟨⟨a⟩⟩ := a; obtain ⟨⟨b⟩⟩ := b
  simp at h; subst h; rfl
mutual
def Tm.same : Tm → Tm → Bool
  | .mk k n m t f l a, .mk k' n' m' t' f' l' b => k == k' && (n.toList == n'.toList && (m == m' && (t.same t' && (f.same f' && (l == l' && Tm.sames a b)))))
def Tm.sames : List Tm → List Tm → Bool
  | [], [] => true
  | a :: l, b :: m => a.same b && Tm.sames l m
  | _, _ => false
end
mutual
theorem Tm.same_iff : ∀ a b : Tm, a.same b = true ↔ a = b
  | .mk k n m t f l a, .mk k' n' m' t' f' l' b => by
    simp only [Tm.same, Bool.and_eq_true, beq_iff_eq, Ty.same_iff, Tm.sames_iff a b, Tm.mk.injEq]
    exact ⟨fun ⟨h1, h2, h3, h4, h5, h6, h7⟩ => ⟨h1, bytes_ext h2, h3, h4, h5, h6, h7⟩, fun ⟨h1, h2, h3, h4, h5, h6, h7⟩ => ⟨h1, by rw [h2], h3, h4, h5, h6, h7⟩⟩
theorem Tm.sames_iff : ∀ a b : List Tm, Tm.sames a b = true ↔ a = b
  | [], [] => by simp [Tm.sames]
  | [], _ :: _ => by simp [Tm.sames]
  | _ :: _, [] => by simp [Tm.sames]
  | a :: l, b :: m => by simp [Tm.sames, Tm.same_iff a b, Tm.sames_iff l m]
end
theorem Tm.same_refl (a : Tm) : a.same a = true := (Tm.same_iff a a).2 rfl

/-! ### checks of a node -/
/-- a name -/
def nmOk (s : ByteArray) : Bool := s.size == 1 && (match s[0]? with | some b => decide (97 ≤ (b.toNat : Int)) && decide ((b.toNat : Int) ≤ 122) | none => false)
def nm (b : UInt8) : ByteArray := ⟨#[b]⟩
def nmB (b : UInt8) : Bool := decide (97 ≤ (b.toNat : Int)) && decide ((b.toNat : Int) ≤ 122)
theorem nmOk_nm (b : UInt8) : nmOk (nm b) = nmB b := rfl
theorem nm_size (b : UInt8) : (nm b).size = 1 := rfl
theorem bs_empty_size : ByteArray.empty.size = 0 := rfl
theorem size_mk (l : Array UInt8) : (ByteArray.mk l).size = l.size := rfl
theorem nmOk_some {s : ByteArray} (h : nmOk s = true) : ∃ b, s = nm b ∧ nmB b = true := by
  obtain ⟨⟨l⟩⟩ := s
  match l, h with
  | [b], h => exact ⟨b, rfl, by rw [← nmOk_nm]; exact h⟩
  | [], h => rw [nmOk, size_mk] at h; simp at h
  | _ :: _ :: _, h => rw [nmOk, size_mk] at h; simp at h
/-- how many operands -/
def opN (k : Int) : Int := if k = 1 then 0 else if k = 2 then 0 else if k = 3 then 0 else if k = 4 then 0 else if k = 5 then 1 else if k = 6 then 2 else if k = 7 then 2 else if k = 8 then 2 else if k = 9 then 3 else if k = 10 then 2 else if k = 11 then 1 else if k = 12 then 1 else if k = 13 then 1 else if k = 14 then 1 else -1
def noTy : Ty := .mk 0 []
def Ty.isNo (t : Ty) : Bool := t.kind == 0 && t.kids.length == 0
theorem Ty.isNo_iff {t : Ty} (h : t.isNo = true) : t = noTy := by
  obtain ⟨k, l⟩ := t
  simp only [Ty.isNo, Ty.kind, Ty.kids, Bool.and_eq_true, beq_iff_eq] at h
  rw [h.1, List.eq_nil_of_length_eq_zero h.2]; rfl
noncomputable def Tm.nodeOk (t : Tm) : Bool :=
  opN t.kind == (t.kids.length : Int) &&
  ((if t.kind = 1 ∨ t.kind = 5 then nmOk t.name else t.name.size == 0) &&
  ((decide (0 ≤ t.num) && decide (t.num ≤ if t.kind = 2 then 999 else 0)) &&
  ((if t.kind = 5 ∨ t.kind = 13 ∨ t.kind = 14 then t.type.valid else t.type.isNo) &&
  (if t.kind = 14 then onT T.cons t.frm t.type && lab t.label else t.frm.isNo && t.label == 0))))
noncomputable def Tm.shape (no : Int) : Nat → Tm → Bool
  | 0, _ => false
  | d + 1, t => t.kind != no && (t.nodeOk && t.kids.all (Tm.shape no d))
noncomputable def Tm.termV (t : Tm) : Bool := t.shape 14 12 && decide (t.nodes ≤ 30)
noncomputable def Tm.castV (t : Tm) : Bool := t.shape 13 40 && decide (t.nodes ≤ 200)

/-! ### forms -/
inductive E where
  | var (x : UInt8) | num (n : Int) | tru | fls | lam (x : UInt8) (t : T) (e : E) | app (a b : E) | add (a b : E) | less (a b : E) | ite (a b c : E) | pair (a b : E) | fst (a : E) | snd (a : E) | asc (t : T) (a : E) | cast (s t : T) (l : Int) (a : E)
/-- a node with no name, no number, no types, no label -/
def nd (k : Int) (l : List Tm) : Tm := .mk k ByteArray.empty 0 noTy noTy 0 l
def E.tm : E → Tm
  | .var x => .mk 1 (nm x) 0 noTy noTy 0 []
  | .num n => .mk 2 ByteArray.empty n noTy noTy 0 []
  | .tru => nd 3 []
  | .fls => nd 4 []
  | .lam x t e => .mk 5 (nm x) 0 t.ty noTy 0 [e.tm]
  | .app a b => nd 6 [a.tm, b.tm]
  | .add a b => nd 7 [a.tm, b.tm]
  | .less a b => nd 8 [a.tm, b.tm]
  | .ite a b c => nd 9 [a.tm, b.tm, c.tm]
  | .pair a b => nd 10 [a.tm, b.tm]
  | .fst a => nd 11 [a.tm]
  | .snd a => nd 12 [a.tm]
  | .asc t a => .mk 13 ByteArray.empty 0 t.ty noTy 0 [a.tm]
  | .cast s t l a => .mk 14 ByteArray.empty 0 t.ty s.ty l [a.tm]
def E.kids : E → List E
  | .var _ | .num _ | .tru | .fls => []
  | .lam _ _ a | .fst a | .snd a | .asc _ a | .cast _ _ _ a => [a]
  | .app a b | .add a b | .less a b | .pair a b => [a, b]
  | .ite a b c => [a, b, c]
def E.wf : E → Bool
  | .var x => nmB x
  | .num n => decide (0 ≤ n) && decide (n ≤ 999)
  | .tru | .fls => true
  | .lam x t a => nmB x && (decide (t.depth ≤ 4) && a.wf)
  | .app a b | .add a b | .less a b | .pair a b => a.wf && b.wf
  | .ite a b c => a.wf && (b.wf && c.wf)
  | .fst a | .snd a => a.wf
  | .asc t a => decide (t.depth ≤ 4) && a.wf
  | .cast s t l a => (decide (s.depth ≤ 4) && decide (t.depth ≤ 4)) && (s.cons t && (lab l && a.wf))
/-- no casts; no annotations -/
def E.noC : E → Bool
  | .var _ | .num _ | .tru | .fls => true
  | .lam _ _ a | .fst a | .snd a | .asc _ a => a.noC
  | .app a b | .add a b | .less a b | .pair a b => a.noC && b.noC
  | .ite a b c => a.noC && (b.noC && c.noC)
  | .cast _ _ _ _ => false
def E.noA : E → Bool
  | .var _ | .num _ | .tru | .fls => true
  | .lam _ _ a | .fst a | .snd a | .cast _ _ _ a => a.noA
  | .app a b | .add a b | .less a b | .pair a b => a.noA && b.noA
  | .ite a b c => a.noA && (b.noA && c.noA)
  | .asc _ _ => false
def E.depth : E → Nat
  | .var _ | .num _ | .tru | .fls => 1
  | .lam _ _ a | .fst a | .snd a | .asc _ a | .cast _ _ _ a => a.depth + 1
  | .app a b | .add a b | .less a b | .pair a b => max a.depth b.depth + 1
  | .ite a b c => max a.depth (max b.depth c.depth) + 1
def E.nodes : E → Nat
  | .var _ | .num _ | .tru | .fls => 1
  | .lam _ _ a | .fst a | .snd a | .asc _ a | .cast _ _ _ a => 1 + a.nodes
  | .app a b | .add a b | .less a b | .pair a b => 1 + (a.nodes + b.nodes)
  | .ite a b c => 1 + (a.nodes + (b.nodes + c.nodes))
theorem E.nodes_pos (e : E) : 0 < e.nodes := by cases e <;> simp only [E.nodes] <;> omega
theorem E.depth_nodes (e : E) : e.depth ≤ e.nodes := by
  induction e <;> simp only [E.depth, E.nodes] <;> omega
theorem E.tm_nodes (e : E) : e.tm.nodes = e.nodes := by
  induction e <;> simp only [E.tm, nd, Tm.nodes, Tm.nodess, E.nodes, *] <;> omega
theorem noTy_isNo : noTy.isNo = true := rfl
theorem noTy_eq : (noTy : Ty) = .mk 0 [] := rfl
theorem onT_cons_ty (x y : T) : onT T.cons x.ty y.ty = (decide (x.depth ≤ 4) && (decide (y.depth ≤ 4) && x.cons y)) := by
  have h : ∀ t : T, t.ty.valid = decide (t.depth ≤ 4) := fun t => T.shape_ty t 4
  by_cases hx : x.depth ≤ 4
  · by_cases hy : y.depth ≤ 4
    · rw [onT_ty _ hx hy]; simp [hx, hy]
    · rw [onT_off _ (by simp [h, hy])]; simp [hy]
  · rw [onT_off _ (by simp [h, hx])]; simp [hx]
theorem T.valid_ty (t : T) : t.ty.valid = decide (t.depth ≤ 4) := T.shape_ty t 4
theorem E.nodeOk_tm (e : E) : e.tm.nodeOk = (match e with
  | .var x => nmB x | .num n => decide (0 ≤ n) && decide (n ≤ 999) | .lam x t _ => nmB x && decide (t.depth ≤ 4) | .asc t _ => decide (t.depth ≤ 4)
  | .cast s t l _ => (decide (s.depth ≤ 4) && decide (t.depth ≤ 4)) && (s.cons t && lab l) | _ => true) := by
  cases e <;> simp [Tm.nodeOk, E.tm, nd, Tm.kind, Tm.name, Tm.num, Tm.type, Tm.frm, Tm.label, Tm.kids, opN, nmOk_nm, noTy_isNo, T.valid_ty, onT_cons_ty, bs_empty_size, -ByteArray.size_data]
  all_goals (try grind)
end Go.Proofs.Grad
/- Terms as shadows. -/
namespace Go.Proofs.Sh
open Go.RowKit Go.Proofs.Grad

mutual
def teC : Tm → List C
  | .mk x0 x1 x2 x3 x4 x5 x6 => [.sc (.int .i64 (x0)), .sc (.string (x1)), .sc (.int .i64 (x2)), .sc (.int .i64 (x3).kind), .sl (tyR (x3).kids), .sc (.int .i64 (x4).kind), .sl (tyR (x4).kids), .sc (.int .i64 (x5)), .sl (teR (x6))]
def teR : List Tm → List (List C)
  | [] => []
  | t :: l => teC t :: teR l
end
theorem teC_eq (t : Tm) : teC t = [.sc (.int .i64 (t.kind)), .sc (.string (t.name)), .sc (.int .i64 (t.num)), .sc (.int .i64 (t.type).kind), .sl (tyR (t.type).kids), .sc (.int .i64 (t.frm).kind), .sl (tyR (t.frm).kids), .sc (.int .i64 (t.label)), .sl (teR (t.kids))] := by cases t; rfl
@[go_sem] theorem teC_length (t : Tm) : (teC t).length = 9 := by rw [teC_eq]; rfl
@[go_sem] theorem teC_take (t : Tm) : (teC t).take 9 = teC t := by rw [teC_eq]; rfl
@[go_sem] theorem teC_drop (t : Tm) : (teC t).drop 0 = teC t := rfl
@[go_sem] theorem teC_dropn (t : Tm) : (teC t).drop 9 = [] := by rw [teC_eq]; rfl
@[go_sem] theorem teC_treeL (t : Tm) : treeL (teC t) = true := by rw [teC_eq]; rfl
@[go_sem] theorem teC_0 (t : Tm) : (teC t)[0]? = some (.sc (.int .i64 (t.kind))) := by rw [teC_eq]; rfl
@[go_sem] theorem teC_1 (t : Tm) : (teC t)[1]? = some (.sc (.string (t.name))) := by rw [teC_eq]; rfl
@[go_sem] theorem teC_2 (t : Tm) : (teC t)[2]? = some (.sc (.int .i64 (t.num))) := by rw [teC_eq]; rfl
@[go_sem] theorem teC_3 (t : Tm) : (teC t)[3]? = some (.sc (.int .i64 (t.type).kind)) := by rw [teC_eq]; rfl
@[go_sem] theorem teC_4 (t : Tm) : (teC t)[4]? = some (.sl (tyR (t.type).kids)) := by rw [teC_eq]; rfl
@[go_sem] theorem teC_dlen3 (t : Tm) : ((teC t).drop 3).length = 6 := by rw [teC_eq]; rfl
@[go_sem] theorem teC_part3 (t : Tm) : ((teC t).drop 3).take 2 = tyC t.type := by rw [teC_eq, tyC_eq]; rfl
@[go_sem] theorem teC_5 (t : Tm) : (teC t)[5]? = some (.sc (.int .i64 (t.frm).kind)) := by rw [teC_eq]; rfl
@[go_sem] theorem teC_6 (t : Tm) : (teC t)[6]? = some (.sl (tyR (t.frm).kids)) := by rw [teC_eq]; rfl
@[go_sem] theorem teC_dlen5 (t : Tm) : ((teC t).drop 5).length = 4 := by rw [teC_eq]; rfl
@[go_sem] theorem teC_part5 (t : Tm) : ((teC t).drop 5).take 2 = tyC t.frm := by rw [teC_eq, tyC_eq]; rfl
@[go_sem] theorem teC_7 (t : Tm) : (teC t)[7]? = some (.sc (.int .i64 (t.label))) := by rw [teC_eq]; rfl
@[go_sem] theorem teC_8 (t : Tm) : (teC t)[8]? = some (.sl (teR (t.kids))) := by rw [teC_eq]; rfl
@[go_sem] theorem tyC_app (t : Ty) (l : List C) : tyC t ++ l = .sc (.int .i64 t.kind) :: .sl (tyR t.kids) :: l := by rw [tyC_eq]; rfl
@[go_sem] theorem teC_splice0 (t : Tm) (x : C) : splice (teC t) 0 [x] = [x, .sc (.string (t.name)), .sc (.int .i64 (t.num)), .sc (.int .i64 (t.type).kind), .sl (tyR (t.type).kids), .sc (.int .i64 (t.frm).kind), .sl (tyR (t.frm).kids), .sc (.int .i64 (t.label)), .sl (teR (t.kids))] := by rw [teC_eq]; rfl
@[go_sem] theorem teC_splice1 (t : Tm) (x : C) : splice (teC t) 1 [x] = [.sc (.int .i64 (t.kind)), x, .sc (.int .i64 (t.num)), .sc (.int .i64 (t.type).kind), .sl (tyR (t.type).kids), .sc (.int .i64 (t.frm).kind), .sl (tyR (t.frm).kids), .sc (.int .i64 (t.label)), .sl (teR (t.kids))] := by rw [teC_eq]; rfl
@[go_sem] theorem teC_splice2 (t : Tm) (x : C) : splice (teC t) 2 [x] = [.sc (.int .i64 (t.kind)), .sc (.string (t.name)), x, .sc (.int .i64 (t.type).kind), .sl (tyR (t.type).kids), .sc (.int .i64 (t.frm).kind), .sl (tyR (t.frm).kids), .sc (.int .i64 (t.label)), .sl (teR (t.kids))] := by rw [teC_eq]; rfl
@[go_sem] theorem teC_splice3 (t : Tm) (x : C) : splice (teC t) 3 [x] = [.sc (.int .i64 (t.kind)), .sc (.string (t.name)), .sc (.int .i64 (t.num)), x, .sl (tyR (t.type).kids), .sc (.int .i64 (t.frm).kind), .sl (tyR (t.frm).kids), .sc (.int .i64 (t.label)), .sl (teR (t.kids))] := by rw [teC_eq]; rfl
@[go_sem] theorem teC_splice4 (t : Tm) (x : C) : splice (teC t) 4 [x] = [.sc (.int .i64 (t.kind)), .sc (.string (t.name)), .sc (.int .i64 (t.num)), .sc (.int .i64 (t.type).kind), x, .sc (.int .i64 (t.frm).kind), .sl (tyR (t.frm).kids), .sc (.int .i64 (t.label)), .sl (teR (t.kids))] := by rw [teC_eq]; rfl
@[go_sem] theorem teC_splice5 (t : Tm) (x : C) : splice (teC t) 5 [x] = [.sc (.int .i64 (t.kind)), .sc (.string (t.name)), .sc (.int .i64 (t.num)), .sc (.int .i64 (t.type).kind), .sl (tyR (t.type).kids), x, .sl (tyR (t.frm).kids), .sc (.int .i64 (t.label)), .sl (teR (t.kids))] := by rw [teC_eq]; rfl
@[go_sem] theorem teC_splice6 (t : Tm) (x : C) : splice (teC t) 6 [x] = [.sc (.int .i64 (t.kind)), .sc (.string (t.name)), .sc (.int .i64 (t.num)), .sc (.int .i64 (t.type).kind), .sl (tyR (t.type).kids), .sc (.int .i64 (t.frm).kind), x, .sc (.int .i64 (t.label)), .sl (teR (t.kids))] := by rw [teC_eq]; rfl
@[go_sem] theorem teC_splice7 (t : Tm) (x : C) : splice (teC t) 7 [x] = [.sc (.int .i64 (t.kind)), .sc (.string (t.name)), .sc (.int .i64 (t.num)), .sc (.int .i64 (t.type).kind), .sl (tyR (t.type).kids), .sc (.int .i64 (t.frm).kind), .sl (tyR (t.frm).kids), x, .sl (teR (t.kids))] := by rw [teC_eq]; rfl
@[go_sem] theorem teC_splice8 (t : Tm) (x : C) : splice (teC t) 8 [x] = [.sc (.int .i64 (t.kind)), .sc (.string (t.name)), .sc (.int .i64 (t.num)), .sc (.int .i64 (t.type).kind), .sl (tyR (t.type).kids), .sc (.int .i64 (t.frm).kind), .sl (tyR (t.frm).kids), .sc (.int .i64 (t.label)), x] := by rw [teC_eq]; rfl
@[go_sem] theorem teC_splice3ty (t : Tm) (x y : C) : splice (teC t) 3 [x, y] = [.sc (.int .i64 (t.kind)), .sc (.string (t.name)), .sc (.int .i64 (t.num)), x, y, .sc (.int .i64 (t.frm).kind), .sl (tyR (t.frm).kids), .sc (.int .i64 (t.label)), .sl (teR (t.kids))] := by rw [teC_eq]; rfl
@[go_sem] theorem teC_splice3tyC (t : Tm) (u : Ty) : splice (teC t) 3 (tyC u) = teC (.mk t.kind t.name t.num u t.frm t.label t.kids) := by rw [teC_eq, tyC_eq]; rfl
@[go_sem] theorem teC_splice5ty (t : Tm) (x y : C) : splice (teC t) 5 [x, y] = [.sc (.int .i64 (t.kind)), .sc (.string (t.name)), .sc (.int .i64 (t.num)), .sc (.int .i64 (t.type).kind), .sl (tyR (t.type).kids), x, y, .sc (.int .i64 (t.label)), .sl (teR (t.kids))] := by rw [teC_eq]; rfl
@[go_sem] theorem teC_splice5tyC (t : Tm) (u : Ty) : splice (teC t) 5 (tyC u) = teC (.mk t.kind t.name t.num t.type u t.label t.kids) := by rw [teC_eq, tyC_eq]; rfl
@[go_sem] theorem teR_length (l : List Tm) : (teR l).length = l.length := by
  induction l with
  | nil => rfl
  | cons t l ih => simp [teR, ih]
theorem teR_get (l : List Tm) (i : Nat) : (teR l)[i]? = (l[i]?).map teC := by
  induction l generalizing i with
  | nil => simp [teR]
  | cons t l ih => cases i <;> simp [teR, ih]
/-- the k-th one -/
def teKid (l : List Tm) (k : Nat) : Tm := l.getD k (.mk 0 ByteArray.empty 0 (.mk 0 []) (.mk 0 []) 0 [])
theorem teKid_eq {l : List Tm} {k : Nat} (h : k < l.length) : teKid l k = l[k] := by simp [teKid, h]
@[go_sem] theorem teR_at (l : List Tm) (i : Nat) : (teR l)[i]? = match decide ((i : Int) < (l.length : Int)) with | true => some (teC (teKid l i)) | false => none := by
  rw [teR_get]
  by_cases h : i < l.length
  · have h' : (i : Int) < (l.length : Int) := by omega
    simp [h, h', teKid]
  · have h' : ¬ (i : Int) < (l.length : Int) := by omega
    simp [h, h']
theorem tesizes_mem {t : Tm} {l : List Tm} (h : t ∈ l) : t.size ≤ Tm.sizes l := by
  induction l with
  | nil => simp at h
  | cons x l ih =>
    simp only [Tm.sizes]
    rcases List.mem_cons.1 h with rfl | h
    · omega
    · have := ih h; omega
theorem telen_sizes (l : List Tm) : l.length ≤ Tm.sizes l := by
  induction l with
  | nil => simp [Tm.sizes]
  | cons x l ih => cases x; simp only [Tm.sizes, Tm.size, List.length_cons]; omega
theorem tekids_lt (t : Tm) : Tm.sizes t.kids < t.size := by cases t; simp only [Tm.size, Tm.kids]; omega
theorem telen_lt (t : Tm) : t.kids.length < t.size := Nat.lt_of_le_of_lt (telen_sizes _) (tekids_lt t)
theorem teKid_lt {t : Tm} {k : Nat} (h : k < t.kids.length) : (teKid t.kids k).size < t.size := by
  rw [teKid_eq h]
  exact Nat.lt_of_le_of_lt (tesizes_mem (List.getElem_mem h)) (tekids_lt t)
theorem tetake_kid {l : List Tm} {k : Nat} (h : k < l.length) : l.take (k + 1) = l.take k ++ [teKid l k] := by
  rw [teKid_eq h, List.take_succ_eq_append_getElem h]
theorem tedrop_kid {l : List Tm} {k : Nat} (h : k < l.length) : l.drop k = teKid l k :: l.drop (k + 1) := by
  rw [teKid_eq h, List.drop_eq_getElem_cons h]
theorem teR_append (l m : List Tm) : teR (l ++ m) = teR l ++ teR m := by
  induction l with
  | nil => rfl
  | cons t l ih => simp [teR, ih]
theorem teR_take {l : List Tm} {k : Nat} (h : k < l.length) : teR (l.take (k + 1)) = teR (l.take k) ++ [teC (teKid l k)] := by
  rw [tetake_kid h, teR_append]; rfl
@[go_sem] theorem teR_tree (l : List Tm) : treeRows (teR l) = true := by
  induction l with
  | nil => rfl
  | cons t l ih => simp only [teR, treeRows_cons, teC_treeL, Bool.true_and]; exact ih
@[go_sem] theorem teR_len (l : List Tm) : rowsLen 9 (teR l) = true := by
  induction l with
  | nil => rfl
  | cons t l ih => simp only [teR, rowsLen_cons, teC_length, beq_self_eq_true, Bool.true_and]; exact ih
attribute [go_sem] teR
@[go_sem] theorem tekind_mk (x0 : Int) (x1 : ByteArray) (x2 : Int) (x3 : Ty) (x4 : Ty) (x5 : Int) (x6 : List Tm) : (Tm.mk x0 x1 x2 x3 x4 x5 x6).kind = x0 := rfl
@[go_sem] theorem tename_mk (x0 : Int) (x1 : ByteArray) (x2 : Int) (x3 : Ty) (x4 : Ty) (x5 : Int) (x6 : List Tm) : (Tm.mk x0 x1 x2 x3 x4 x5 x6).name = x1 := rfl
@[go_sem] theorem tenum_mk (x0 : Int) (x1 : ByteArray) (x2 : Int) (x3 : Ty) (x4 : Ty) (x5 : Int) (x6 : List Tm) : (Tm.mk x0 x1 x2 x3 x4 x5 x6).num = x2 := rfl
@[go_sem] theorem tetype_mk (x0 : Int) (x1 : ByteArray) (x2 : Int) (x3 : Ty) (x4 : Ty) (x5 : Int) (x6 : List Tm) : (Tm.mk x0 x1 x2 x3 x4 x5 x6).type = x3 := rfl
@[go_sem] theorem tefrm_mk (x0 : Int) (x1 : ByteArray) (x2 : Int) (x3 : Ty) (x4 : Ty) (x5 : Int) (x6 : List Tm) : (Tm.mk x0 x1 x2 x3 x4 x5 x6).frm = x4 := rfl
@[go_sem] theorem telabel_mk (x0 : Int) (x1 : ByteArray) (x2 : Int) (x3 : Ty) (x4 : Ty) (x5 : Int) (x6 : List Tm) : (Tm.mk x0 x1 x2 x3 x4 x5 x6).label = x5 := rfl
@[go_sem] theorem tekids_mk (x0 : Int) (x1 : ByteArray) (x2 : Int) (x3 : Ty) (x4 : Ty) (x5 : Int) (x6 : List Tm) : (Tm.mk x0 x1 x2 x3 x4 x5 x6).kids = x6 := rfl
end Go.Proofs.Sh
/- Owned types and terms. -/
namespace Go.Proofs.Sh
open Go.RowKit Go.Proofs.Grad

theorem ow_sc {h : List Blk} {d : Nat} {c : C} {v : Value} {ids : List Nat} (hv : v ≠ .slice none 0 0) (e : ow h d c = some (.sc v, ids)) : c = .sc v ∧ ids = [] := by
  cases c with
  | row s b n => obtain ⟨_, _, _, _, _, _, _, _, _, _, _, h, _⟩ := ow_row e; cases h
  | _ =>
    rw [ow_leaf (by simp)] at e
    obtain ⟨rfl, ⟨h1, h2⟩ | ⟨v, h1, _, h2⟩ | ⟨h1, h2⟩⟩ := leaf_cases e
    · cases h2
    · cases h2; exact ⟨h1, rfl⟩
    · cases h2
theorem fzL_cons {f : C → Option (C × List Nat)} {cs : List C} {x : C} {xs : List C} {ids : List Nat} (e : fzL f cs = some (x :: xs, ids)) : ∃ c cs' i j, cs = c :: cs' ∧ f c = some (x, i) ∧ fzL f cs' = some (xs, j) ∧ ids = i ++ j := by
  cases cs with
  | nil => simp [fzL] at e
  | cons c cs' =>
    simp only [fzL] at e
    split at e
    · rename_i c1 i c2 j h1 h2
      simp only [Option.some.injEq, Prod.mk.injEq, List.cons.injEq] at e
      obtain ⟨⟨rfl, rfl⟩, rfl⟩ := e
      exact ⟨c, cs', i, j, rfl, h1, h2, rfl⟩
    · cases e
theorem fzL_nil {f : C → Option (C × List Nat)} {cs : List C} {ids : List Nat} (e : fzL f cs = some ([], ids)) : cs = [] ∧ ids = [] := by
  cases cs with
  | nil => simp only [fzL, Option.some.injEq, Prod.mk.injEq] at e; exact ⟨rfl, e.2.symm⟩
  | cons c cs' =>
    simp only [fzL] at e
    split at e
    · simp at e
    · cases e
theorem owL_ty {h : List Blk} {d : Nat} {cs : List C} {t : Ty} {ids : List Nat} (e : fzL (ow h d) cs = some (tyC t, ids)) : ∃ c, cs = [.sc (.int .i64 t.kind), c] ∧ ow h d c = some (.sl (tyR t.kids), ids) := by
  rw [tyC_eq] at e
  obtain ⟨c0, cs1, i0, j0, rfl, e0, f0, rfl⟩ := fzL_cons e
  obtain ⟨c1, cs2, i1, j1, rfl, e1, f1, rfl⟩ := fzL_cons f0
  obtain ⟨rfl, rfl⟩ := fzL_nil f1
  obtain ⟨rfl, rfl⟩ := ow_sc (by simp) e0
  exact ⟨c1, rfl, by simpa using e1⟩
/-- a term's cells: the cells of its types' and its own operands -/
def teO (t : Tm) (c1 c2 c3 : C) : List C := [.sc (.int .i64 t.kind), .sc (.string t.name), .sc (.int .i64 t.num), .sc (.int .i64 t.type.kind), c1, .sc (.int .i64 t.frm.kind), c2, .sc (.int .i64 t.label), c3]
theorem owL_te {h : List Blk} {d : Nat} {cs : List C} {t : Tm} {ids : List Nat} (e : fzL (ow h d) cs = some (teC t, ids)) : ∃ c1 c2 c3 i1 i2 i3, cs = teO t c1 c2 c3 ∧ ids = i1 ++ (i2 ++ i3) ∧ ow h d c1 = some (.sl (tyR t.type.kids), i1) ∧ ow h d c2 = some (.sl (tyR t.frm.kids), i2) ∧ ow h d c3 = some (.sl (teR t.kids), i3) := by
  rw [teC_eq] at e
  obtain ⟨c0, cs1, i0, j0, rfl, e0, f0, rfl⟩ := fzL_cons e
  obtain ⟨c1, cs2, i1, j1, rfl, e1, f1, rfl⟩ := fzL_cons f0
  obtain ⟨c2, cs3, i2, j2, rfl, e2, f2, rfl⟩ := fzL_cons f1
  obtain ⟨c3, cs4, i3, j3, rfl, e3, f3, rfl⟩ := fzL_cons f2
  obtain ⟨c4, cs5, i4, j4, rfl, e4, f4, rfl⟩ := fzL_cons f3
  obtain ⟨c5, cs6, i5, j5, rfl, e5, f5, rfl⟩ := fzL_cons f4
  obtain ⟨c6, cs7, i6, j6, rfl, e6, f6, rfl⟩ := fzL_cons f5
  obtain ⟨c7, cs8, i7, j7, rfl, e7, f7, rfl⟩ := fzL_cons f6
  obtain ⟨c8, cs9, i8, j8, rfl, e8, f8, rfl⟩ := fzL_cons f7
  obtain ⟨rfl, rfl⟩ := fzL_nil f8
  obtain ⟨rfl, rfl⟩ := ow_sc (by simp) e0
  obtain ⟨rfl, rfl⟩ := ow_sc (by simp) e1
  obtain ⟨rfl, rfl⟩ := ow_sc (by simp) e2
  obtain ⟨rfl, rfl⟩ := ow_sc (by simp) e3
  obtain ⟨rfl, rfl⟩ := ow_sc (by simp) e5
  obtain ⟨rfl, rfl⟩ := ow_sc (by simp) e7
  exact ⟨c4, c6, c8, i4, i6, i8, rfl, by simp, e4, e6, e8⟩
theorem owL_te_of {h : List Blk} {d1 d2 d3 : Nat} {t : Tm} {c1 c2 c3 : C} {i1 i2 i3 : List Nat} (h1 : ow h d1 c1 = some (.sl (tyR t.type.kids), i1)) (h2 : ow h d2 c2 = some (.sl (tyR t.frm.kids), i2)) (h3 : ow h d3 c3 = some (.sl (teR t.kids), i3)) : ∃ d, fzL (ow h d) (teO t c1 c2 c3) = some (teC t, i1 ++ (i2 ++ i3)) := by
  refine ⟨max d1 (max d2 d3), ?_⟩
  have h1 := ow_le (Nat.le_max_left d1 (max d2 d3)) h1
  have h2 := ow_le (Nat.le_trans (Nat.le_max_left d2 d3) (Nat.le_max_right d1 (max d2 d3))) h2
  have h3 := ow_le (Nat.le_trans (Nat.le_max_right d2 d3) (Nat.le_max_right d1 (max d2 d3))) h3
  rw [teC_eq]
  simp only [teO, fzL, ow_int, ow_str, h1, h2, h3, List.nil_append, List.append_nil]
@[go_sem] theorem teO_length (t : Tm) (c1 c2 c3 : C) : (teO t c1 c2 c3).length = 9 := rfl
end Go.Proofs.Sh
namespace Go.Proofs.Grad
mutual
def Tm.mapT (φ : Tm → Tm) : Tm → Tm
  | .mk k n m t f l a => φ (.mk k n m t f l (Tm.mapTs φ a))
def Tm.mapTs (φ : Tm → Tm) : List Tm → List Tm
  | [] => []
  | t :: l => t.mapT φ :: Tm.mapTs φ l
end
theorem mapTs_eq (φ : Tm → Tm) : ∀ l : List Tm, Tm.mapTs φ l = l.map (Tm.mapT φ)
  | [] => rfl
  | t :: l => by simp [Tm.mapTs, mapTs_eq φ l]
/-- a node with other operands -/
def Tm.kidsOf (t : Tm) (l : List Tm) : Tm := .mk t.kind t.name t.num t.type t.frm t.label l
theorem mapT_eq (φ : Tm → Tm) (t : Tm) : t.mapT φ = φ (t.kidsOf (t.kids.map (Tm.mapT φ))) := by cases t; simp only [Tm.mapT, Tm.kidsOf, mapTs_eq]; rfl
mutual
theorem mapT_id : ∀ t : Tm, t.mapT id = t
  | .mk k n m t f l a => by simp only [Tm.mapT, mapTs_id a, id]
theorem mapTs_id : ∀ l : List Tm, Tm.mapTs id l = l
  | [] => rfl
  | t :: l => by simp only [Tm.mapTs, mapT_id t, mapTs_id l]
end
end Go.Proofs.Grad
namespace Go.Proofs.Sh
open Go.RowKit Go.Proofs.Grad
theorem take_map {φ : Tm → Tm} {l : List Tm} {k : Nat} (h : k < l.length) : (l.take (k + 1)).map (Tm.mapT φ) = (l.take k).map (Tm.mapT φ) ++ [(teKid l k).mapT φ] := by
  rw [tetake_kid h]; simp
/-- what a change of a node leaves -/
def Changed (h : List Blk) (ids : List Nat) (enc : List C) (r : AV) (h' : List Blk) : Prop := ∃ cs d ids', r = .agg cs ∧ fzL (ow h' d) cs = some (enc, ids') ∧ ids'.Nodup ∧ (∀ b ∈ ids', b ∈ ids ∨ h.length ≤ b) ∧ h.length ≤ h'.length ∧ ∀ b, b < h.length → h'[b]? = h[b]?
theorem nodup3 {i1 i2 i3 : List Nat} {a b c : Nat} (h1 : i1.Nodup) (h2 : i2.Nodup) (h3 : i3.Nodup) (b3 : ∀ x ∈ i3, x < a) (b1 : ∀ x ∈ i1, a ≤ x ∧ x < b) (b2 : ∀ x ∈ i2, b ≤ x ∧ x < c) (hab : a ≤ b) : (i1 ++ (i2 ++ i3)).Nodup := by
  refine List.nodup_append.2 ⟨h1, List.nodup_append.2 ⟨h2, h3, fun x hx y hy e => ?_⟩, fun x hx y hy e => ?_⟩
  · subst e; have := b2 x hx; have := b3 x hy; omega
  · subst e
    have := b1 x hx
    rcases List.mem_append.1 hy with hy | hy
    · have := b2 x hy; omega
    · have := b3 x hy; omega
theorem nodup3' {i1 i2 i3 : List Nat} {a b c : Nat} (h1 : i1.Nodup) (h2 : i2.Nodup) (h3 : i3.Nodup) (b1 : ∀ x ∈ i1, a ≤ x ∧ x < b) (b2 : ∀ x ∈ i2, b ≤ x ∧ x < c) (b3 : ∀ x ∈ i3, c ≤ x) (hbc : b ≤ c) : (i1 ++ (i2 ++ i3)).Nodup := by
  refine List.nodup_append.2 ⟨h1, List.nodup_append.2 ⟨h2, h3, fun x hx y hy e => ?_⟩, fun x hx y hy e => ?_⟩
  · subst e; have := b2 x hx; have := b3 x hy; omega
  · subst e
    have := b1 x hx
    rcases List.mem_append.1 hy with hy | hy
    · have := b2 x hy; omega
    · have := b3 x hy; omega
end Go.Proofs.Sh
/- Terms: terms mapped by a function, owned. On shadows. -/
namespace Go.Proofs.YtnaebafafhamjaaGreat
open Go.RowKit Go.Proofs.Sh Go.Proofs.Grad
set_option maxRecDepth 100000
set_option maxHeartbeats 8000000
theorem iMappedO (g : FuncId) (φ : Tm → Tm) (J I : Tm → Prop) (hJ : ∀ t k, J t → k < t.kids.length → J (teKid t.kids k)) (hI : ∀ t, J t → I (t.kidsOf (t.kids.map (Tm.mapT φ))))
    (hg : ∀ (x : Tm) (h : List Blk) (cs : List C) (d : Nat) (ids : List Nat), I x → fzL (ow h d) cs = some (teC x, ids) → ids.Nodup → ∃ ks, ACalls Tryz.prog g [.agg cs] h ks (Changed h ids (teC (φ x))))
    (n : Nat) (hn : n ≤ 1000000000) : ∀ t : Tm, t.size < n → J t → ACl Tryz.prog 97 [.agg (teC t), .one (.fn g [])] [] (OwnK (teC (t.mapT φ)) .agg) := by
  induction n with
  | zero => intro t h; omega
  | succ n ih =>
    intro t h hj
    have hl : t.kids.length < 1000000000 := by have := telen_lt t; omega
    have hty : t.type.size < n + 1 := by cases t; simp only [Tm.size, Tm.type] at *; omega
    have hfr : t.frm.size < n + 1 := by cases t; simp only [Tm.size, Tm.frm] at *; omega
    refine acl_in Tryz.func97 rfl isfn_97 (Nat.le_of_ble_eq_true rfl) (fun R hR => ?_); rw [Tryz.results97] at hR; refine wg_run ?_; (simp only [Tryz.f97, go_sem])
    refine wd_for (σ := Nat × C × List Blk) [1, 2, 4, 5, 9, 10, 11] (fun x => [.one (.fn g []), .one (.ptr 9 0 0 0), .one (.ptr 9 1 0 0), .one x.2.1, .one (.sl (teR t.kids)), .one (.sc (.int .i64 t.kids.length)), .one (.sc (.int .i64 (x.1 : Nat)))])
      (fun x => ⟨9, 28, .mut, [teC t]⟩ :: ⟨9, 28, .mut, [[.sc (.int .i64 0), .sc (.string ByteArray.empty), .sc (.int .i64 0), .sc (.int .i64 0), .sc (.slice none 0 0), .sc (.int .i64 0), .sc (.slice none 0 0), .sc (.int .i64 0), .sc (.slice none 0 0)]]⟩ :: x.2.2)
      (fun x => x.1 ≤ t.kids.length ∧ Grown 9 28 2 (teR ((t.kids.take x.1).map (Tm.mapT φ))) x.2.1 x.2.2) (fun x => t.kids.length - x.1) (0, .sc (.slice none 0 0), []) ⟨Nat.zero_le _, .inl ⟨rfl, rfl⟩⟩ (head_all (by (simp only [go_sem]); first | done | rfl) ⟨rfl, rfl⟩) ?_
    rintro ⟨k, c, T⟩ ⟨hk, hG⟩ G hGo
    simp only at hk hG hGo ⊢
    refine wg_run ?_
    (simp only [go_sem])
    ((first | refine sp1 ?_ ?_ | refine sp2 ?_ ?_ | refine sp3 ?_ ?_ | refine sp4 ?_ ?_ | refine sp5 ?_ ?_ | refine sp6 ?_ ?_ | refine sp7 ?_ ?_) <;> intro hb) <;> (simp only [go_sem, hb])
    · have hk1 : k < t.kids.length := by have := of_decide_eq_true hb; omega
      repeat' (first | (first | (simp only [go_sem, hb]) | (((first | refine sp1 ?_ ?_ | refine sp2 ?_ ?_ | refine sp3 ?_ ?_ | refine sp4 ?_ ?_ | refine sp5 ?_ ?_ | refine sp6 ?_ ?_ | refine sp7 ?_ ?_) <;> intro hb) <;> (simp only [go_sem, hb, hb])) | ((first | refine wm_done ?_ | refine wt_done ?_ | refine wg_run ?_ | refine fk ?_ ?_) <;> (simp only [go_sem, hb]))) | ((first | refine mx 6 [] follows ?_ | refine mx 5 [] follows ?_ | refine mx 4 [] follows ?_ | refine mx 3 [] follows ?_ | refine mx 2 [] follows ?_ | refine mx 1 [] follows ?_ | refine mx 0 [] follows ?_ | fail); (simp only [go_sem, hb])))
      refine wd_any (acalls_own (.cons (.same (by (simp only [go_sem]); first | done | rfl)) (.cons .fn .nil)) (ih (by omega) (teKid t.kids k) (by have := teKid_lt hk1; omega) (hJ t k hj hk1)) (fun _ h => h) ren_agg) ?_
      rintro _ h' ⟨cs, d, ids, rfl, e1, e2, e3, e4, e5⟩
      obtain ⟨T', rfl, f1, f2⟩ := pre2 e4 e5
      have hcs : cs.length = 9 := by rw [← fzL_len e1, teC_length]
      have hlen : ((t.kids.take k).map (Tm.mapT φ)).length = k := by rw [List.length_map, List.length_take]; omega
      have hcap : (k + 1) * 128 ≤ 140737488355328 := by omega
      have hw1 : IntKind.i64.wrap (((k : Nat) : Int) + 1) = ((k + 1 : Nat) : Int) := wrap_succ hk1 (by omega)
      rcases hG.more (pre := [_, _]) rfl (Nat.le_trans (by simp) f1) (fun i hi => by rw [f2 i (by simp; omega), List.getElem?_append_left hi]) e1 hcs e2 (fun b hb => by have := (e3 b hb).1; simp at this; omega) with ⟨rfl, h0, hy⟩ | ⟨j, rows, rfl, hpos, hj, hrl, hrs, hy⟩
      · (simp only [go_sem, hcs])
        repeat' (first | (simp only [go_sem, hcs, hw1, hlen, hcap]) | (((first | refine sp1 ?_ ?_ | refine sp2 ?_ ?_ | refine sp3 ?_ ?_ | refine sp4 ?_ ?_ | refine sp5 ?_ ?_ | refine sp6 ?_ ?_ | refine sp7 ?_ ?_) <;> intro hb) <;> (simp only [go_sem, hb, hcs, hw1, hlen, hcap])) | ((first | refine wm_done ?_ | refine wt_done ?_ | refine wg_run ?_ | refine fk ?_ ?_) <;> (simp only [go_sem, hcs, hw1, hlen, hcap])))
        refine hGo (k + 1, _, _) _ _ ⟨by omega, ?_⟩ (by simp only; omega) (head_all (by (simp only [go_sem]); first | done | rfl) ⟨rfl, rfl⟩)
        simp only [take_map hk1, teR_append, teR]
        exact hy _
      · have hj2 := fun U => get_app hj U
        rw [teR_length, hlen] at hrl hpos hy
        (simp only [go_sem, hcs, hj2, hlen])
        repeat' (first | (simp only [go_sem, hcs, hw1, hlen, hcap, hj2, hrl, hrs]) | (((first | refine sp1 ?_ ?_ | refine sp2 ?_ ?_ | refine sp3 ?_ ?_ | refine sp4 ?_ ?_ | refine sp5 ?_ ?_ | refine sp6 ?_ ?_ | refine sp7 ?_ ?_) <;> intro hb) <;> (simp only [go_sem, hb, hcs, hw1, hlen, hcap, hj2, hrl, hrs])) | ((first | refine wm_done ?_ | refine wt_done ?_ | refine wg_run ?_ | refine fk ?_ ?_) <;> (simp only [go_sem, hcs, hw1, hlen, hcap, hj2, hrl, hrs])))
        refine hGo (k + 1, _, _) _ _ ⟨by omega, ?_⟩ (by simp only; omega) (head_all (by (simp only [go_sem]); first | done | rfl) ⟨rfl, rfl⟩)
        simp only [take_map hk1, teR_append, teR]
        exact hy _
    · have hk1 : k = t.kids.length := by have := of_decide_eq_false hb; omega
      rw [hk1, List.take_length] at hG
      obtain ⟨d0, js, g1, g2, g3⟩ := hG.ow
      repeat' (first | (first | (simp only [go_sem, hb]) | (((first | refine sp1 ?_ ?_ | refine sp2 ?_ ?_ | refine sp3 ?_ ?_ | refine sp4 ?_ ?_ | refine sp5 ?_ ?_ | refine sp6 ?_ ?_ | refine sp7 ?_ ?_) <;> intro hb) <;> (simp only [go_sem, hb, hb])) | ((first | refine wm_done ?_ | refine wt_done ?_ | refine wg_run ?_ | refine fk ?_ ?_) <;> (simp only [go_sem, hb]))) | ((first | refine mx 6 [] follows ?_ | refine mx 5 [] follows ?_ | refine mx 4 [] follows ?_ | refine mx 3 [] follows ?_ | refine mx 2 [] follows ?_ | refine mx 1 [] follows ?_ | refine mx 0 [] follows ?_ | fail); (simp only [go_sem, hb])))
      refine wm_any (acalls_own (.cons (.same (by (simp only [go_sem]); first | done | rfl)) .nil) (iOwnTyO (n + 1) (by omega) t.type hty) (fun _ h => h) ren_agg) (by (simp only [go_sem]); first | done | rfl) (by (simp only [go_sem]); first | done | rfl) ?_
      rintro _ h' ⟨cs1, d1, ids1, rfl, a1, a2, a3, a4, a5⟩
      obtain ⟨T1, rfl, b1, b2⟩ := pre2 a4 a5
      obtain ⟨x1, rfl, z1⟩ := owL_ty a1
      (simp only [go_sem])
      repeat' (first | (first | (simp only [go_sem, hb]) | (((first | refine sp1 ?_ ?_ | refine sp2 ?_ ?_ | refine sp3 ?_ ?_ | refine sp4 ?_ ?_ | refine sp5 ?_ ?_ | refine sp6 ?_ ?_ | refine sp7 ?_ ?_) <;> intro hb) <;> (simp only [go_sem, hb, hb])) | ((first | refine wm_done ?_ | refine wt_done ?_ | refine wg_run ?_ | refine fk ?_ ?_) <;> (simp only [go_sem, hb]))) | ((first | refine mx 6 [] follows ?_ | refine mx 5 [] follows ?_ | refine mx 4 [] follows ?_ | refine mx 3 [] follows ?_ | refine mx 2 [] follows ?_ | refine mx 1 [] follows ?_ | refine mx 0 [] follows ?_ | fail); (simp only [go_sem, hb])))
      refine wm_any (acalls_own (.cons (.same (by (simp only [go_sem]); first | done | rfl)) .nil) (iOwnTyO (n + 1) (by omega) t.frm hfr) (fun _ h => h) ren_agg) (by (simp only [go_sem]); first | done | rfl) (by (simp only [go_sem]); first | done | rfl) ?_
      rintro _ h' ⟨cs2, d2, ids2, rfl, p1, p2, p3, p4, p5⟩
      obtain ⟨T2, rfl, q1, q2⟩ := pre2 p4 p5
      obtain ⟨x2, rfl, z2⟩ := owL_ty p1
      (simp only [go_sem])
      repeat' (first | (first | (simp only [go_sem, hb]) | (((first | refine sp1 ?_ ?_ | refine sp2 ?_ ?_ | refine sp3 ?_ ?_ | refine sp4 ?_ ?_ | refine sp5 ?_ ?_ | refine sp6 ?_ ?_ | refine sp7 ?_ ?_) <;> intro hb) <;> (simp only [go_sem, hb, hb])) | ((first | refine wm_done ?_ | refine wt_done ?_ | refine wg_run ?_ | refine fk ?_ ?_) <;> (simp only [go_sem, hb]))) | ((first | refine mx 6 [] follows ?_ | refine mx 5 [] follows ?_ | refine mx 4 [] follows ?_ | refine mx 3 [] follows ?_ | refine mx 2 [] follows ?_ | refine mx 1 [] follows ?_ | refine mx 0 [] follows ?_ | fail); (simp only [go_sem, hb])))
      have hx1 : ∀ b ∈ ids1, T.length + 2 ≤ b ∧ b < T1.length + 2 := fun b hb => by have := a3 b hb; simp at this; omega
      have hx2 : ∀ b ∈ ids2, T1.length + 2 ≤ b ∧ b < T2.length + 2 := fun b hb => by have := p3 b hb; simp at this; omega
      have hjs : ∀ b ∈ js, b < T.length + 2 := fun b hb => by
        have := (ow_mut (g1 [⟨0, 0, .dead, []⟩, ⟨0, 0, .dead, []⟩] rfl) b hb).lt
        simpa only [List.length_append, List.length_cons, List.length_nil, Nat.zero_add, Nat.add_comm] using this
      have hd := fun (pre : List Blk) (hp : pre.length = 2) => owL_te_of (t := t.kidsOf (t.kids.map (Tm.mapT φ)))
        (ow_pre (pre := [_, _]) (pre' := pre) (by rw [hp]; rfl) q2 z1 (fun b hb => by have := hx1 b hb; simp only [List.length_cons, List.length_nil]; omega))
        (ow_pre (pre := [_, _]) (pre' := pre) (T' := T2) (by rw [hp]; rfl) (fun _ _ => rfl) z2 (fun b hb => by have := hx2 b hb; simp only [List.length_cons, List.length_nil]; omega))
        (ow_pre (pre := pre) (pre' := pre) (T' := T2) rfl (fun i hi => by rw [q2 i (by omega), b2 i hi]) (g1 pre hp) (fun b hb => by have := g3 b hb; omega))
      obtain ⟨d, hd⟩ := hd [_, _] rfl
      obtain ⟨ks, hgk⟩ := hg _ _ _ d _ (hI t hj) hd (nodup3 a2 p2 g2 hjs hx1 hx2 (by omega))
      refine wd_any hgk ?_
      rintro _ h' ⟨cs3, d3, ids3, rfl, u1, u2, u3, u4, u5⟩
      obtain ⟨T3, rfl, v1, v2⟩ := pre2 u4 u5
      have hcs3 : cs3.length = 9 := by rw [← fzL_len u1, teC_length]
      (simp only [go_sem, hcs3])
      repeat' (first | (simp only [go_sem, hcs3]) | (((first | refine sp1 ?_ ?_ | refine sp2 ?_ ?_ | refine sp3 ?_ ?_ | refine sp4 ?_ ?_ | refine sp5 ?_ ?_ | refine sp6 ?_ ?_ | refine sp7 ?_ ?_) <;> intro hb) <;> (simp only [go_sem, hb, hcs3])) | ((first | refine wm_done ?_ | refine wt_done ?_ | refine wg_run ?_ | refine fk ?_ ?_) <;> (simp only [go_sem, hcs3])))
      have htk : cs3.take 9 = cs3 := List.take_of_length_le (by omega)
      refine hR _ (ret_ownK (d := d3) (ids := ids3) (cs := cs3) (by (simp only [go_sem, hcs3, htk]); first | done | rfl) ?_ u2 (fun _ => prVs_agg))
      rw [mapT_eq]
      refine owL_frame (h := _ :: _ :: T3) u1 (fun b hb => ?_)
      have hb2 : 2 ≤ b := by
        rcases u3 b hb with hb | hb
        · rcases List.mem_append.1 hb with hb | hb
          · have := hx1 b hb; omega
          · rcases List.mem_append.1 hb with hb | hb
            · have := hx2 b hb; omega
            · have := g3 b hb; omega
        · have hb : (_ :: _ :: T2 : List Blk).length ≤ b := hb
          simp only [List.length_cons] at hb; omega
      obtain ⟨b, rfl⟩ : ∃ x, b = x + 2 := ⟨b - 2, by omega⟩
      rfl
theorem iOwn1O (x : Tm) (h : List Blk) (cs : List C) (d : Nat) (ids : List Nat) (e : fzL (ow h d) cs = some (teC x, ids)) (hn : ids.Nodup) : ∃ ks, ACalls Tryz.prog 161 [.agg cs] h ks (Changed h ids (teC (id x))) := by
  have hcs : cs.length = 9 := by rw [← fzL_len e, teC_length]
  have htk : cs.take 9 = cs := List.take_of_length_le (by omega)
  have hc : ACl Tryz.prog 161 [.agg cs] h (fun r h' => r = .agg cs ∧ ∃ T, h' = h ++ T) := by
    refine acl_in Tryz.func161 rfl isfn_161 (Nat.le_of_ble_eq_true rfl) (fun R hR => ?_); rw [Tryz.results161] at hR; refine wg_run ?_; (simp only [Tryz.f161, go_sem, hcs])
    repeat' (first | (simp only [go_sem, hcs, htk]) | (((first | refine sp1 ?_ ?_ | refine sp2 ?_ ?_ | refine sp3 ?_ ?_ | refine sp4 ?_ ?_ | refine sp5 ?_ ?_ | refine sp6 ?_ ?_ | refine sp7 ?_ ?_) <;> intro hb) <;> (simp only [go_sem, hb, hcs, htk])) | ((first | refine wm_done ?_ | refine wt_done ?_ | refine wg_run ?_ | refine fk ?_ ?_) <;> (simp only [go_sem, hcs, htk])))
    refine hR _ (ret_all (by (simp only [go_sem, htk, hcs]); first | done | rfl) ⟨rfl, [⟨9, 28, .mut, [cs]⟩, ⟨9, 28, .mut, [cs]⟩], ?_⟩)
    simp
  refine ⟨_, (acalls_full hc).mono ?_⟩
  rintro r h' ⟨rfl, T, rfl⟩
  exact ⟨cs, d, ids, rfl, owL_frame e (fun b hb => List.getElem?_append_left ((owL_mut e b hb).lt)), hn, fun b hb => .inl hb, by simp, fun b hb => List.getElem?_append_left hb⟩
theorem iOwnO (t : Tm) (ht : t.size < 1000000000) : ACl Tryz.prog 112 [.agg (teC t)] [] (OwnK (teC t) .agg) := by
  have hm := iMappedO 161 id (fun _ => True) (fun _ => True) (fun _ _ _ _ => trivial) (fun _ _ => trivial) (fun x h cs d ids _ e hn => iOwn1O x h cs d ids e hn) 1000000000 (by omega) t ht trivial
  rw [mapT_id] at hm
  refine acl_in Tryz.func112 rfl isfn_112 (Nat.le_of_ble_eq_true rfl) (fun R hR => ?_); rw [Tryz.results112] at hR; refine wg_run ?_; (simp only [Tryz.f112, go_sem])
  repeat' (first | (((first | refine sp1 ?_ ?_ | refine sp2 ?_ ?_ | refine sp3 ?_ ?_ | refine sp4 ?_ ?_ | refine sp5 ?_ ?_ | refine sp6 ?_ ?_ | refine sp7 ?_ ?_) <;> intro hb) <;> (simp only [go_sem, hb])) | ((first | refine wm_done ?_ | refine wt_done ?_ | refine wg_run ?_ | refine fk ?_ ?_) <;> (simp only [go_sem])))
  refine wd_any (acalls_own (.cons (.same (by (simp only [go_sem]); first | done | rfl)) (.cons .fn .nil)) hm (fun _ h => h) ren_agg) ?_
  rintro _ h' ⟨cs, d, ids, rfl, e1, e2, e3, e4, e5⟩
  obtain ⟨T, rfl, f1, f2⟩ := pre2 e4 e5
  have hcs : cs.length = 9 := by rw [← fzL_len e1, teC_length]
  have htk : cs.take 9 = cs := List.take_of_length_le (by omega)
  (simp only [go_sem, hcs])
  repeat' (first | (simp only [go_sem, hcs]) | (((first | refine sp1 ?_ ?_ | refine sp2 ?_ ?_ | refine sp3 ?_ ?_ | refine sp4 ?_ ?_ | refine sp5 ?_ ?_ | refine sp6 ?_ ?_ | refine sp7 ?_ ?_) <;> intro hb) <;> (simp only [go_sem, hb, hcs])) | ((first | refine wm_done ?_ | refine wt_done ?_ | refine wg_run ?_ | refine fk ?_ ?_) <;> (simp only [go_sem, hcs])))
  refine hR _ (ret_ownK (d := d) (ids := ids) (cs := cs) (by (simp only [go_sem, hcs, htk]); first | done | rfl) ?_ e2 (fun _ => prVs_agg))
  refine owL_frame (h := _ :: _ :: T) e1 (fun b hb => ?_)
  have hb2 : 2 ≤ b := by have := (e3 b hb).1; simp only [List.length_cons] at this; omega
  obtain ⟨b, rfl⟩ : ∃ x, b = x + 2 := ⟨b - 2, by omega⟩
  rfl
end Go.Proofs.YtnaebafafhamjaaGreat
/- Terms: validity as a form. No program, no world. -/
namespace Go.Proofs.Grad
theorem E.depth_pos (e : E) : 1 ≤ e.depth := by cases e <;> simp [E.depth]
theorem E.shapeC_tm (e : E) : ∀ d, e.tm.shape 14 d = (e.wf && (e.noC && decide (e.depth ≤ d))) := by
  induction e with
  | var _ | num _ | tru | fls =>
    intro d
    cases d with
    | zero => simp [Tm.shape, E.depth]
    | succ d =>
      rw [Tm.shape, E.nodeOk_tm]
      simp [E.tm, nd, Tm.kind, Tm.kids, E.wf, E.noC, E.depth]
  | lam _ _ a ih | fst a ih | snd a ih | asc _ a ih =>
    intro d
    cases d with
    | zero => simp [Tm.shape, E.depth]
    | succ d =>
      rw [Tm.shape, E.nodeOk_tm]
      simp only [E.tm, nd, Tm.kind, Tm.kids, E.wf, E.noC, E.depth, List.all_cons, List.all_nil, ih]
      rw [Bool.eq_iff_iff]; simp; try grind
  | cast s t l a ih =>
    intro d
    cases d with
    | zero => simp [Tm.shape, E.depth]
    | succ d =>
      rw [Tm.shape, E.nodeOk_tm]
      simp [E.tm, Tm.kind, E.noC]
  | app a b iha ihb | add a b iha ihb | less a b iha ihb | pair a b iha ihb =>
    intro d
    cases d with
    | zero => simp [Tm.shape, E.depth]
    | succ d =>
      rw [Tm.shape, E.nodeOk_tm]
      simp only [E.tm, nd, Tm.kind, Tm.kids, E.wf, E.noC, E.depth, List.all_cons, List.all_nil, iha, ihb]
      rw [Bool.eq_iff_iff]; simp; grind
  | ite a b c iha ihb ihc =>
    intro d
    cases d with
    | zero => simp [Tm.shape, E.depth]
    | succ d =>
      rw [Tm.shape, E.nodeOk_tm]
      simp only [E.tm, nd, Tm.kind, Tm.kids, E.wf, E.noC, E.depth, List.all_cons, List.all_nil, iha, ihb, ihc]
      rw [Bool.eq_iff_iff]; simp; grind
theorem E.shapeA_tm (e : E) : ∀ d, e.tm.shape 13 d = (e.wf && (e.noA && decide (e.depth ≤ d))) := by
  induction e with
  | var _ | num _ | tru | fls =>
    intro d
    cases d with
    | zero => simp [Tm.shape, E.depth]
    | succ d =>
      rw [Tm.shape, E.nodeOk_tm]
      simp [E.tm, nd, Tm.kind, Tm.kids, E.wf, E.noA, E.depth]
  | lam _ _ a ih | fst a ih | snd a ih | cast _ _ _ a ih =>
    intro d
    cases d with
    | zero => simp [Tm.shape, E.depth]
    | succ d =>
      rw [Tm.shape, E.nodeOk_tm]
      simp only [E.tm, nd, Tm.kind, Tm.kids, E.wf, E.noA, E.depth, List.all_cons, List.all_nil, ih]
      rw [Bool.eq_iff_iff]; simp; try grind
  | asc t a ih =>
    intro d
    cases d with
    | zero => simp [Tm.shape, E.depth]
    | succ d =>
      rw [Tm.shape, E.nodeOk_tm]
      simp [E.tm, Tm.kind, E.noA]
  | app a b iha ihb | add a b iha ihb | less a b iha ihb | pair a b iha ihb =>
    intro d
    cases d with
    | zero => simp [Tm.shape, E.depth]
    | succ d =>
      rw [Tm.shape, E.nodeOk_tm]
      simp only [E.tm, nd, Tm.kind, Tm.kids, E.wf, E.noA, E.depth, List.all_cons, List.all_nil, iha, ihb]
      rw [Bool.eq_iff_iff]; simp; grind
  | ite a b c iha ihb ihc =>
    intro d
    cases d with
    | zero => simp [Tm.shape, E.depth]
    | succ d =>
      rw [Tm.shape, E.nodeOk_tm]
      simp only [E.tm, nd, Tm.kind, Tm.kids, E.wf, E.noA, E.depth, List.all_cons, List.all_nil, iha, ihb, ihc]
      rw [Bool.eq_iff_iff]; simp; grind
theorem opN_cases (k : Int) : (1 ≤ k ∧ k ≤ 14) ∨ opN k = -1 := by
  by_cases h : 1 ≤ k ∧ k ≤ 14
  · exact .inl h
  · right; unfold opN; repeat' (first | rw [if_neg (by omega)])
theorem bs_nil {s : ByteArray} (h : s.size = 0) : s = ByteArray.empty := by
  obtain ⟨⟨l⟩⟩ := s
  rw [size_mk] at h
  simp at h; subst h; rfl
theorem onT_cons_some {a b : Ty} (h : onT T.cons a b = true) : ∃ x y : T, a = x.ty ∧ b = y.ty ∧ x.depth ≤ 4 ∧ y.depth ≤ 4 ∧ x.cons y = true := by
  classical
  unfold onT at h
  obtain ⟨x, y, rfl, rfl, hx, hy, h⟩ := of_decide_eq_true h
  exact ⟨x, y, rfl, rfl, hx, hy, h⟩
theorem Tm.shape_E (no : Int) : ∀ (d : Nat) (t : Tm), t.shape no d = true → ∃ e : E, e.tm = t := by
  intro d
  induction d with
  | zero => intro t h; simp [Tm.shape] at h
  | succ d ih =>
    intro t h
    obtain ⟨k, n, m, ty, f, l, ks⟩ := t
    simp only [Tm.shape, Bool.and_eq_true, Tm.kids, List.all_eq_true] at h
    obtain ⟨_, h1, h2⟩ := h
    simp only [Tm.nodeOk, Tm.kind, Tm.name, Tm.num, Tm.type, Tm.frm, Tm.label, Tm.kids, Bool.and_eq_true, beq_iff_eq, decide_eq_true_eq] at h1
    obtain ⟨q1, q2, q3, q4, q5⟩ := h1
    have hk : 1 ≤ k ∧ k ≤ 14 := by
      rcases opN_cases k with h | h
      · exact h
      · rw [h] at q1; omega
    have e0 : (ks.length : Int) = 0 → ks = [] := fun h => List.eq_nil_of_length_eq_zero (by omega)
    have e1 : (ks.length : Int) = 1 → ∃ a : E, ks = [a.tm] := fun h => by
      match ks, h with
      | [a], _ => obtain ⟨x, hx⟩ := ih a (h2 a (by simp)); exact ⟨x, by rw [hx]⟩
      | [], h => simp at h
      | _ :: _ :: _, h => simp at h; omega
    have e2 : (ks.length : Int) = 2 → ∃ a b : E, ks = [a.tm, b.tm] := fun h => by
      match ks, h with
      | [a, b], _ => obtain ⟨x, hx⟩ := ih a (h2 a (by simp)); obtain ⟨y, hy⟩ := ih b (h2 b (by simp)); exact ⟨x, y, by rw [hx, hy]⟩
      | [], h => simp at h
      | [_], h => simp at h
      | _ :: _ :: _ :: _, h => simp at h; omega
    have e3 : (ks.length : Int) = 3 → ∃ a b c : E, ks = [a.tm, b.tm, c.tm] := fun h => by
      match ks, h with
      | [a, b, c], _ => obtain ⟨x, hx⟩ := ih a (h2 a (by simp)); obtain ⟨y, hy⟩ := ih b (h2 b (by simp)); obtain ⟨z, hz⟩ := ih c (h2 c (by simp)); exact ⟨x, y, z, by rw [hx, hy, hz]⟩
      | [], h => simp at h
      | [_], h => simp at h
      | [_, _], h => simp at h
      | _ :: _ :: _ :: _ :: _, h => simp at h; omega
    clear ih h2
    obtain rfl | rfl | rfl | rfl | rfl | rfl | rfl | rfl | rfl | rfl | rfl | rfl | rfl | rfl : k = 1 ∨ k = 2 ∨ k = 3 ∨ k = 4 ∨ k = 5 ∨ k = 6 ∨ k = 7 ∨ k = 8 ∨ k = 9 ∨ k = 10 ∨ k = 11 ∨ k = 12 ∨ k = 13 ∨ k = 14 := by omega
    all_goals
      simp only [opN, Int.reduceEq, reduceIte, if_true, if_false, or_true, true_or, or_false, or_self, Bool.and_eq_true, beq_iff_eq, decide_eq_true_eq] at q1 q2 q3 q4 q5
    · skip
      obtain ⟨x, rfl, hx⟩ := nmOk_some q2
      obtain rfl := e0 q1.symm
      obtain rfl := Ty.isNo_iff q4; obtain rfl := Ty.isNo_iff q5.1
      obtain rfl : m = 0 := by first | omega | (have a1 := of_decide_eq_true q3.1; have a2 := q3.2; omega)
      exact ⟨.var x, by rw [E.tm, q5.2]⟩
    · obtain rfl := bs_nil q2
      obtain rfl := e0 q1.symm
      obtain rfl := Ty.isNo_iff q4; obtain rfl := Ty.isNo_iff q5.1
      exact ⟨.num m, by rw [E.tm, q5.2]⟩
    · obtain rfl := bs_nil q2
      obtain rfl := e0 q1.symm
      obtain rfl := Ty.isNo_iff q4; obtain rfl := Ty.isNo_iff q5.1
      obtain rfl : m = 0 := by first | omega | (have a1 := of_decide_eq_true q3.1; have a2 := q3.2; omega)
      exact ⟨.tru, by rw [E.tm, q5.2]; rfl⟩
    · obtain rfl := bs_nil q2
      obtain rfl := e0 q1.symm
      obtain rfl := Ty.isNo_iff q4; obtain rfl := Ty.isNo_iff q5.1
      obtain rfl : m = 0 := by first | omega | (have a1 := of_decide_eq_true q3.1; have a2 := q3.2; omega)
      exact ⟨.fls, by rw [E.tm, q5.2]; rfl⟩
    · obtain ⟨x, rfl, hx⟩ := nmOk_some q2
      obtain ⟨a, rfl⟩ := e1 q1.symm
      obtain ⟨t, rfl, ht⟩ := (Ty.valid_iff ty).1 q4
      obtain rfl := Ty.isNo_iff q5.1
      obtain rfl : m = 0 := by first | omega | (have a1 := of_decide_eq_true q3.1; have a2 := q3.2; omega)
      exact ⟨.lam x t a, by rw [E.tm, q5.2]⟩
    all_goals obtain rfl := bs_nil q2
    all_goals obtain rfl : m = 0 := by first | omega | (have a1 := of_decide_eq_true q3.1; have a2 := q3.2; omega)
    all_goals try
      (obtain ⟨a, b, rfl⟩ := e2 q1.symm
       obtain rfl := Ty.isNo_iff q4; obtain rfl := Ty.isNo_iff q5.1
       first
         | exact ⟨.app a b, by rw [E.tm, q5.2]; rfl⟩
         | exact ⟨.add a b, by rw [E.tm, q5.2]; rfl⟩
         | exact ⟨.less a b, by rw [E.tm, q5.2]; rfl⟩
         | exact ⟨.pair a b, by rw [E.tm, q5.2]; rfl⟩
       done)
    · obtain ⟨a, b, c, rfl⟩ := e3 q1.symm
      obtain rfl := Ty.isNo_iff q4; obtain rfl := Ty.isNo_iff q5.1
      exact ⟨.ite a b c, by rw [E.tm, q5.2]; rfl⟩
    · obtain ⟨a, rfl⟩ := e1 q1.symm
      obtain rfl := Ty.isNo_iff q4; obtain rfl := Ty.isNo_iff q5.1
      exact ⟨.fst a, by rw [E.tm, q5.2]; rfl⟩
    · obtain ⟨a, rfl⟩ := e1 q1.symm
      obtain rfl := Ty.isNo_iff q4; obtain rfl := Ty.isNo_iff q5.1
      exact ⟨.snd a, by rw [E.tm, q5.2]; rfl⟩
    · obtain ⟨a, rfl⟩ := e1 q1.symm
      obtain ⟨t, rfl, ht⟩ := (Ty.valid_iff ty).1 q4
      obtain rfl := Ty.isNo_iff q5.1
      exact ⟨.asc t a, by rw [E.tm, q5.2]⟩
    · obtain ⟨a, rfl⟩ := e1 q1.symm
      obtain ⟨s, t, rfl, rfl, hs, ht, hc⟩ := onT_cons_some q5.1
      exact ⟨.cast s t l a, rfl⟩
/-- a valid term's form -/
def E.okT (e : E) : Bool := e.wf && (e.noC && (decide (e.depth ≤ 12) && decide (e.nodes ≤ 30)))
/-- .. with casts -/
def E.okC (e : E) : Bool := e.wf && (e.noA && (decide (e.depth ≤ 40) && decide (e.nodes ≤ 200)))
theorem E.termV_tm (e : E) : e.tm.termV = e.okT := by simp only [Tm.termV, E.shapeC_tm, E.tm_nodes, E.okT, Bool.and_assoc]
theorem E.castV_tm (e : E) : e.tm.castV = e.okC := by simp only [Tm.castV, E.shapeA_tm, E.tm_nodes, E.okC, Bool.and_assoc]
theorem Tm.termV_E {t : Tm} (h : t.termV = true) : ∃ e : E, e.tm = t ∧ e.okT = true := by
  have h' := h
  simp only [Tm.termV, Bool.and_eq_true] at h'
  obtain ⟨e, rfl⟩ := Tm.shape_E _ _ _ h'.1
  exact ⟨e, rfl, by rwa [← E.termV_tm]⟩
theorem Tm.castV_E {t : Tm} (h : t.castV = true) : ∃ e : E, e.tm = t ∧ e.okC = true := by
  have h' := h
  simp only [Tm.castV, Bool.and_eq_true] at h'
  obtain ⟨e, rfl⟩ := Tm.shape_E _ _ _ h'.1
  exact ⟨e, rfl, by rwa [← E.castV_tm]⟩
theorem nm_inj {a b : UInt8} (h : nm a = nm b) : a = b := by simpa [nm] using h
theorem E.tm_inj : ∀ a b : E, a.tm = b.tm → a = b := by
  intro a
  induction a with
  | var x => intro b h; cases b <;> simp [E.tm, nd] at h; rw [nm_inj h]
  | num x => intro b h; cases b <;> simp [E.tm, nd] at h; rw [h]
  | tru | fls => intro b h; cases b <;> simp [E.tm, nd] at h; rfl
  | lam x t a ih =>
    intro b h; cases b <;> simp [E.tm, nd] at h
    obtain ⟨h1, h2, h3⟩ := h
    rw [nm_inj h1, T.ty_inj _ _ h2, ih _ h3]
  | app a b iha ihb | add a b iha ihb | less a b iha ihb | pair a b iha ihb =>
    intro c h; cases c <;> simp [E.tm, nd] at h
    obtain ⟨h1, h2⟩ := h
    rw [iha _ h1, ihb _ h2]
  | ite a b c iha ihb ihc =>
    intro d h; cases d <;> simp [E.tm, nd] at h
    obtain ⟨h1, h2, h3⟩ := h
    rw [iha _ h1, ihb _ h2, ihc _ h3]
  | fst a ih | snd a ih =>
    intro b h; cases b <;> simp [E.tm, nd] at h
    rw [ih _ h]
  | asc t a ih =>
    intro b h; cases b <;> simp [E.tm, nd] at h
    obtain ⟨h1, h2⟩ := h
    rw [T.ty_inj _ _ h1, ih _ h2]
  | cast s t l a ih =>
    intro b h; cases b <;> simp [E.tm, nd] at h
    obtain ⟨h1, h2, h3, h4⟩ := h
    rw [T.ty_inj _ _ h1, T.ty_inj _ _ h2, h3, ih _ h4]
end Go.Proofs.Grad
/- Steps of terms with casts. No program, no world. -/
namespace Go.Proofs.Grad
/-- v in place of x -/
def E.subst : E → UInt8 → E → E
  | .var y, x, v => match y == x with | true => v | false => .var y
  | .lam y t a, x, v => match y == x with | true => .lam y t a | false => .lam y t (a.subst x v)
  | .num n, x, v => .num n
  | .tru, x, v => .tru
  | .fls, x, v => .fls
  | .app a b, x, v => .app (a.subst x v) (b.subst x v)
  | .add a b, x, v => .add (a.subst x v) (b.subst x v)
  | .less a b, x, v => .less (a.subst x v) (b.subst x v)
  | .ite a b c, x, v => .ite (a.subst x v) (b.subst x v) (c.subst x v)
  | .pair a b, x, v => .pair (a.subst x v) (b.subst x v)
  | .fst a, x, v => .fst (a.subst x v)
  | .snd a, x, v => .snd (a.subst x v)
  | .asc t a, x, v => .asc t (a.subst x v)
  | .cast s t l a, x, v => .cast s t l (a.subst x v)
def T.isFn : T → Bool | .fn _ _ => true | _ => false
def T.isPr : T → Bool | .pr _ _ => true | _ => false
/-- a ground type -/
def T.isG : T → Bool | .any => false | .fn .any .any => true | .fn _ _ => false | .pr .any .any => true | .pr _ _ => false | _ => true
def proxyT (s t : T) : Bool := (s.isFn && t.isFn) || (s.isPr && t.isPr)
def injT (s t : T) : Bool := (t.ty.kind == 1) && s.isG
def E.val : E → Bool
  | .num _ | .tru | .fls | .lam _ _ _ => true
  | .pair a b => a.val && b.val
  | .cast s t _ a => (proxyT s t || injT s t) && a.val
  | _ => false
/-- what a step makes -/
inductive SR where
  | took (e : E) | blame (l : Int) | stuck
def SR.code : SR → Int | .took _ => 1 | .blame _ => 2 | .stuck => 3
def SR.lab : SR → Int | .blame l => l | _ => 0
def SR.map (f : E → E) : SR → SR | .took e => .took (f e) | .blame l => .blame l | .stuck => .stuck
def ruleApp : E → E → SR
  | .lam x _ b, v => .took (b.subst x v)
  | .cast (.fn s1 s2) (.fn t1 t2) l f, v => .took (.cast s2 t2 l (.app f (.cast t1 s1 (-l) v)))
  | _, _ => .stuck
def ruleAdd : E → E → SR
  | .num n, .num m => .took (.num ((n + m).tmod 1000))
  | _, _ => .stuck
def ruleLess : E → E → SR
  | .num n, .num m => match decide (n < m) with | true => .took .tru | false => .took .fls
  | _, _ => .stuck
def ruleIte : E → E → E → SR
  | .tru, b, _ => .took b
  | .fls, _, c => .took c
  | _, _, _ => .stuck
def ruleFst : E → SR
  | .pair a _ => .took a
  | .cast (.pr s1 _) (.pr t1 _) l v => .took (.cast s1 t1 l (.fst v))
  | _ => .stuck
def ruleSnd : E → SR
  | .pair _ b => .took b
  | .cast (.pr _ s2) (.pr _ t2) l v => .took (.cast s2 t2 l (.snd v))
  | _ => .stuck
/-- the type g, of which there is an injection below, and the type t: the same, or not -/
def ruleOut (t : T) (l : Int) : E → SR
  | .cast s' t' _ w => match injT s' t' with | true => (match s'.ty.kind == t.ty.kind with | true => .took w | false => .blame l) | false => .stuck
  | _ => .stuck
def ruleCast (s t : T) (l : Int) (v : E) : SR :=
  match s.ty.kind == t.ty.kind with
  | true => .took v
  | false => match t.ty.kind == 1 with
    | true => .took (.cast s.ground .any l (.cast s s.ground l v))
    | false => match t.isG with
      | false => .took (.cast t.ground t l (.cast s t.ground l v))
      | true => ruleOut t l v
/-- a step of a term with casts that is no value -/
def E.step : E → SR
  | .app a b => match a.val with | false => a.step.map (.app · b) | true => (match b.val with | false => b.step.map (.app a ·) | true => ruleApp a b)
  | .add a b => match a.val with | false => a.step.map (.add · b) | true => (match b.val with | false => b.step.map (.add a ·) | true => ruleAdd a b)
  | .less a b => match a.val with | false => a.step.map (.less · b) | true => (match b.val with | false => b.step.map (.less a ·) | true => ruleLess a b)
  | .ite a b c => match a.val with | false => a.step.map (.ite · b c) | true => ruleIte a b c
  | .pair a b => match a.val with | false => a.step.map (.pair · b) | true => (match b.val with | false => b.step.map (.pair a ·) | true => .stuck)
  | .fst a => match a.val with | false => a.step.map .fst | true => ruleFst a
  | .snd a => match a.val with | false => a.step.map .snd | true => ruleSnd a
  | .cast s t l a => match a.val with | false => a.step.map (.cast s t l) | true => ruleCast s t l a
  | _ => .stuck
/-! what steps keep -/
theorem E.subst_wf {x : UInt8} {v : E} (hv : v.wf = true) : ∀ e : E, e.wf = true → (e.subst x v).wf = true := by
  intro e
  induction e with
  | var y => intro h; simp only [E.subst]; split <;> assumption
  | lam y t a ih => intro h; simp only [E.subst]; split <;> simp_all [E.wf]
  | _ => intro h; simp_all [E.subst, E.wf]
theorem E.subst_noA {x : UInt8} {v : E} (hv : v.noA = true) : ∀ e : E, e.noA = true → (e.subst x v).noA = true := by
  intro e
  induction e with
  | var y => intro h; simp only [E.subst]; split <;> assumption
  | lam y t a ih => intro h; simp only [E.subst]; split <;> simp_all [E.noA]
  | _ => intro h; simp_all [E.subst, E.noA]
theorem T.cons_any' (a : T) : a.cons .any = true := by cases a <;> rfl
theorem T.cons_comm (a : T) : ∀ b : T, a.cons b = b.cons a := by
  induction a with
  | fn a1 a2 ih1 ih2 | pr a1 a2 ih1 ih2 => intro b; cases b <;> simp [T.cons, *]
  | _ => intro b; cases b <;> rfl
theorem lab_neg' {l : Int} (h : lab l = true) : lab (-l) = true := by
  simp [lab] at *; omega
theorem lab_bd2 {l : Int} (h : lab l = true) : -99 ≤ l ∧ l ≤ 99 := by simp [lab] at h; omega
theorem T.ground_cons (t : T) : t.cons t.ground = true := by cases t <;> simp [T.ground, T.cons, T.cons_any']
theorem T.ground_depth (t : T) : t.ground.depth ≤ t.depth := by
  have hp : ∀ x : T, 1 ≤ x.depth := fun x => by cases x <;> simp [T.depth]
  cases t with
  | fn a b | pr a b => have := hp a; simp only [T.ground, T.depth]; omega
  | _ => exact Nat.le_refl _
def SR.ok : SR → Bool | .took e => e.wf && e.noA | .blame l => Grad.lab l | .stuck => true
theorem SR.map_ok {r : SR} {f : E → E} (h : r.ok = true) (hf : ∀ e, e.wf = true → e.noA = true → (f e).wf = true ∧ (f e).noA = true) : (r.map f).ok = true := by
  cases r with
  | took e => simp only [SR.ok, Bool.and_eq_true, SR.map] at h ⊢; exact hf e h.1 h.2
  | _ => exact h
theorem ruleApp_ok {a b : E} (ha : a.wf = true) (na : a.noA = true) (hb : b.wf = true) (nb : b.noA = true) : (ruleApp a b).ok = true := by
  cases a with
  | lam x t c =>
    simp only [E.wf, E.noA, Bool.and_eq_true] at ha na
    simp only [ruleApp, SR.ok, Bool.and_eq_true]
    exact ⟨E.subst_wf hb _ ha.2.2, E.subst_noA nb _ na⟩
  | cast s t l f =>
    cases s <;> cases t <;> try rfl
    rename_i s1 s2 t1 t2
    simp only [E.wf, E.noA, T.cons, Bool.and_eq_true, decide_eq_true_eq] at ha na
    obtain ⟨⟨d1, d2⟩, ⟨c1, c2⟩, hl, hf⟩ := ha
    simp only [T.depth] at d1 d2
    simp only [ruleApp, SR.ok, E.wf, E.noA, Bool.and_eq_true, decide_eq_true_eq]
    exact ⟨⟨⟨by omega, by omega⟩, c2, hl, hf, ⟨by omega, by omega⟩, by rw [T.cons_comm]; exact c1, lab_neg' hl, hb⟩, na, nb⟩
  | _ => rfl
theorem ruleAdd_ok {a b : E} (ha : a.wf = true) (hb : b.wf = true) : (ruleAdd a b).ok = true := by
  cases a with
  | num n =>
    cases b with
    | num m =>
      simp only [E.wf, Bool.and_eq_true, decide_eq_true_eq] at ha hb
      simp only [ruleAdd, SR.ok, E.wf, E.noA, Bool.and_eq_true, decide_eq_true_eq]
      have := Int.tmod_lt_of_pos (n + m) (b := 1000) (by omega)
      have := Int.tmod_nonneg 1000 (a := n + m) (by omega)
      exact ⟨⟨by omega, by omega⟩, trivial⟩
    | _ => rfl
  | _ => rfl
theorem ruleLess_ok (a b : E) : (ruleLess a b).ok = true := by
  cases a with
  | num n =>
    cases b with
    | num m => simp only [ruleLess]; split <;> rfl
    | _ => rfl
  | _ => rfl
theorem ruleIte_ok {a b c : E} (hb : b.wf = true) (nb : b.noA = true) (hc : c.wf = true) (nc : c.noA = true) : (ruleIte a b c).ok = true := by
  cases a <;> simp [ruleIte, SR.ok, *]
theorem ruleFst_ok {a : E} (ha : a.wf = true) (na : a.noA = true) : (ruleFst a).ok = true := by
  cases a with
  | pair x y => simp only [E.wf, E.noA, Bool.and_eq_true] at ha na; simp [ruleFst, SR.ok, *]
  | cast s t l f =>
    cases s <;> cases t <;> try rfl
    rename_i s1 s2 t1 t2
    simp only [E.wf, E.noA, T.cons, Bool.and_eq_true, decide_eq_true_eq] at ha na
    obtain ⟨⟨d1, d2⟩, ⟨c1, c2⟩, hl, hf⟩ := ha
    simp only [T.depth] at d1 d2
    simp only [ruleFst, SR.ok, E.wf, E.noA, Bool.and_eq_true, decide_eq_true_eq]
    exact ⟨⟨⟨by omega, by omega⟩, c1, hl, hf⟩, na⟩
  | _ => rfl
theorem ruleSnd_ok {a : E} (ha : a.wf = true) (na : a.noA = true) : (ruleSnd a).ok = true := by
  cases a with
  | pair x y => simp only [E.wf, E.noA, Bool.and_eq_true] at ha na; simp [ruleSnd, SR.ok, *]
  | cast s t l f =>
    cases s <;> cases t <;> try rfl
    rename_i s1 s2 t1 t2
    simp only [E.wf, E.noA, T.cons, Bool.and_eq_true, decide_eq_true_eq] at ha na
    obtain ⟨⟨d1, d2⟩, ⟨c1, c2⟩, hl, hf⟩ := ha
    simp only [T.depth] at d1 d2
    simp only [ruleSnd, SR.ok, E.wf, E.noA, Bool.and_eq_true, decide_eq_true_eq]
    exact ⟨⟨⟨by omega, by omega⟩, c2, hl, hf⟩, na⟩
  | _ => rfl
theorem cons_kind {s t : T} (h1 : (s.ty.kind == t.ty.kind) = false) (h2 : (t.ty.kind == 1) = false) (hc : s.cons t = true) : s = .any := by
  cases s <;> cases t <;> simp_all [T.ty, Ty.kind, T.cons]
theorem kind_one {t : T} (h : (t.ty.kind == 1) = true) : t = .any := by
  cases t <;> simp_all [T.ty, Ty.kind]
theorem ruleCast_ok {s t : T} {l : Int} {a : E} (h1 : (E.cast s t l a).wf = true) (h2 : a.noA = true) : (ruleCast s t l a).ok = true := by
  simp only [E.wf, Bool.and_eq_true, decide_eq_true_eq] at h1
  obtain ⟨⟨ds, dt⟩, hc, hl, ha⟩ := h1
  unfold ruleCast
  cases e1 : (s.ty.kind == t.ty.kind)
  · cases e2 : (t.ty.kind == 1)
    · have hs := cons_kind e1 e2 hc
      subst hs
      cases e3 : t.isG
      · have hg := T.ground_cons t
        have hd := T.ground_depth t
        simp only [SR.ok, E.wf, E.noA, Bool.and_eq_true, decide_eq_true_eq]
        exact ⟨⟨⟨by omega, by omega⟩, by rw [T.cons_comm]; exact hg, hl, ⟨by omega, by omega⟩, by rw [T.cons_comm]; exact T.cons_any' _, hl, ha⟩, h2⟩
      · simp only []
        unfold ruleOut
        cases a with
        | cast s' t' l' w =>
          simp only [E.wf, E.noA, Bool.and_eq_true, decide_eq_true_eq] at ha h2
          simp only []
          cases injT s' t'
          · rfl
          · simp only []
            cases (s'.ty.kind == t.ty.kind)
            · exact hl
            · simp only [SR.ok, Bool.and_eq_true]; exact ⟨ha.2.2.2, h2⟩
        | _ => rfl
    · have hg := T.ground_cons s
      have hd := T.ground_depth s
      simp only [SR.ok, E.wf, E.noA, Bool.and_eq_true, decide_eq_true_eq]
      exact ⟨⟨⟨by omega, by simp [T.depth]⟩, T.cons_any' _, hl, ⟨by omega, by omega⟩, hg, hl, ha⟩, h2⟩
  · simp only [SR.ok, Bool.and_eq_true]; exact ⟨ha, h2⟩
theorem E.step_ok (e : E) : e.wf = true → e.noA = true → e.step.ok = true := by
  induction e with
  | app a b iha ihb =>
    intro h1 h2
    simp only [E.wf, E.noA, Bool.and_eq_true] at h1 h2
    simp only [E.step]
    split
    · exact SR.map_ok (iha h1.1 h2.1) fun e a1 a2 => by simp [E.wf, E.noA, *]
    · split
      · exact SR.map_ok (ihb h1.2 h2.2) fun e a1 a2 => by simp [E.wf, E.noA, *]
      · exact ruleApp_ok h1.1 h2.1 h1.2 h2.2
  | add a b iha ihb =>
    intro h1 h2
    simp only [E.wf, E.noA, Bool.and_eq_true] at h1 h2
    simp only [E.step]
    split
    · exact SR.map_ok (iha h1.1 h2.1) fun e a1 a2 => by simp [E.wf, E.noA, *]
    · split
      · exact SR.map_ok (ihb h1.2 h2.2) fun e a1 a2 => by simp [E.wf, E.noA, *]
      · exact ruleAdd_ok h1.1 h1.2
  | less a b iha ihb =>
    intro h1 h2
    simp only [E.wf, E.noA, Bool.and_eq_true] at h1 h2
    simp only [E.step]
    split
    · exact SR.map_ok (iha h1.1 h2.1) fun e a1 a2 => by simp [E.wf, E.noA, *]
    · split
      · exact SR.map_ok (ihb h1.2 h2.2) fun e a1 a2 => by simp [E.wf, E.noA, *]
      · exact ruleLess_ok _ _
  | pair a b iha ihb =>
    intro h1 h2
    simp only [E.wf, E.noA, Bool.and_eq_true] at h1 h2
    simp only [E.step]
    split
    · exact SR.map_ok (iha h1.1 h2.1) fun e a1 a2 => by simp [E.wf, E.noA, *]
    · split
      · exact SR.map_ok (ihb h1.2 h2.2) fun e a1 a2 => by simp [E.wf, E.noA, *]
      · rfl
  | ite a b c iha ihb ihc =>
    intro h1 h2
    simp only [E.wf, E.noA, Bool.and_eq_true] at h1 h2
    simp only [E.step]
    split
    · exact SR.map_ok (iha h1.1 h2.1) fun e a1 a2 => by simp [E.wf, E.noA, *]
    · exact ruleIte_ok h1.2.1 h2.2.1 h1.2.2 h2.2.2
  | fst a ih =>
    intro h1 h2
    simp only [E.wf, E.noA] at h1 h2
    simp only [E.step]
    split
    · exact SR.map_ok (ih h1 h2) fun e a1 a2 => by simp [E.wf, E.noA, *]
    · exact ruleFst_ok h1 h2
  | snd a ih =>
    intro h1 h2
    simp only [E.wf, E.noA] at h1 h2
    simp only [E.step]
    split
    · exact SR.map_ok (ih h1 h2) fun e a1 a2 => by simp [E.wf, E.noA, *]
    · exact ruleSnd_ok h1 h2
  | cast s t l a ih =>
    intro h1 h2
    have h1' := h1
    simp only [E.wf, E.noA, Bool.and_eq_true, decide_eq_true_eq] at h1 h2
    simp only [E.step]
    split
    · exact SR.map_ok (ih h1.2.2.2 h2) fun e a1 a2 => by simp [E.wf, E.noA, *]
    · exact ruleCast_ok h1' h2
  | _ => intro _ _; rfl
/-! the rules, as the program has them -/
def E.ruleI : E → Option E
  | .app (.lam x _ b) v => some (b.subst x v)
  | .add (.num n) (.num m) => some (.num ((n + m).tmod 1000))
  | .less (.num n) (.num m) => some (match decide (n < m) with | true => .tru | false => .fls)
  | .ite .tru b _ => some b
  | .ite .fls _ c => some c
  | .fst (.pair a _) => some a
  | .snd (.pair _ b) => some b
  | _ => none
def E.castR : E → SR
  | .app (.cast (.fn s1 s2) (.fn t1 t2) l f) v => .took (.cast s2 t2 l (.app f (.cast t1 s1 (-l) v)))
  | .fst (.cast (.pr s1 _) (.pr t1 _) l v) => .took (.cast s1 t1 l (.fst v))
  | .snd (.cast (.pr _ s2) (.pr _ t2) l v) => .took (.cast s2 t2 l (.snd v))
  | .cast s t l v => ruleCast s t l v
  | _ => .stuck
def E.red (e : E) : SR := match e.ruleI with | some x => .took x | none => e.castR
theorem red_app (a b : E) : (E.app a b).red = ruleApp a b := by
  cases a with
  | cast s t l f => cases s <;> cases t <;> rfl
  | _ => rfl
theorem red_add (a b : E) : (E.add a b).red = ruleAdd a b := by
  cases a <;> cases b <;> rfl
theorem red_less (a b : E) : (E.less a b).red = ruleLess a b := by
  cases a <;> cases b <;> first | rfl | (simp only [E.red, E.ruleI, ruleLess]; split <;> rfl)
theorem red_ite (a b c : E) : (E.ite a b c).red = ruleIte a b c := by cases a <;> rfl
theorem red_fst (a : E) : (E.fst a).red = ruleFst a := by
  cases a with
  | cast s t l f => cases s <;> cases t <;> rfl
  | _ => rfl
theorem red_snd (a : E) : (E.snd a).red = ruleSnd a := by
  cases a with
  | cast s t l f => cases s <;> cases t <;> rfl
  | _ => rfl
theorem red_cast (s t : T) (l : Int) (a : E) : (E.cast s t l a).red = ruleCast s t l a := rfl
/-- the zero term -/
def tm0 : Tm := .mk 0 ByteArray.empty 0 noTy noTy 0 []
def SR.tm : SR → Tm | .took e => e.tm | _ => tm0
end Go.Proofs.Grad
/- Evaluation of terms with casts. No program, no world. -/
namespace Go.Proofs.Grad
/-- what StepCast makes of a valid term -/
inductive SC where
  | value (e : E) | took (e : E) | blame (l : Int) | stuck | large
def SC.tm : SC → Tm | .value e => e.tm | .took e => e.tm | _ => tm0
def SC.code : SC → Int | .value _ => 0 | .took _ => 1 | .blame _ => 2 | .stuck => 3 | .large => 4
def SC.lab : SC → Int | .blame l => l | _ => 0
def E.sc (e : E) : SC := match e.val with
  | true => .value e
  | false => match e.step with | .took x => (match x.okC with | true => .took x | false => .large) | .blame l => .blame l | .stuck => .stuck
theorem E.sc_took {e x : E} (h : e.sc = .took x) : e.val = false ∧ e.step = .took x ∧ x.okC = true := by
  unfold E.sc at h
  split at h
  · cases h
  · rename_i hv
    split at h
    · rename_i y hy
      split at h
      · rename_i ho; cases h; exact ⟨hv, hy, ho⟩
      · cases h
    · cases h
    · cases h
theorem E.sc_ok {e x : E} (h : e.sc = .took x) : x.okC = true := (E.sc_took h).2.2
theorem E.step_wf {e x : E} (hw : e.wf = true) (hn : e.noA = true) (h : e.step = .took x) : x.wf = true ∧ x.noA = true := by
  have := E.step_ok e hw hn
  rw [h] at this
  simpa [SR.ok] using this
/-- so many steps at most, n taken before: the last StepCast's result, and how many steps -/
def E.evI : Nat → E → Nat → SC × Nat
  | 0, e, n => (e.sc, n)
  | k + 1, e, n => match e.sc with | .took x => x.evI k (n + 1) | r => (r, n)
theorem E.evI_steps (k : Nat) : ∀ (e : E) (n : Nat), (e.evI k n).2 ≤ n + k := by
  induction k with
  | zero => intro e n; exact Nat.le_refl _
  | succ k ih =>
    intro e n
    simp only [E.evI]
    split
    · have := ih ‹_› (n + 1); omega
    · simp
theorem E.evI_add (k : Nat) : ∀ (e : E) (n m : Nat), e.evI k (n + m) = ((e.evI k n).1, (e.evI k n).2 + m) := by
  induction k with
  | zero => intro e n m; rfl
  | succ k ih =>
    intro e n m
    simp only [E.evI]
    split
    · have := ih ‹_› (n + 1) m; rw [show n + 1 + m = n + m + 1 by omega] at this; exact this
    · rfl
/-- the result of an evaluation -/
def SC.fin : SC → SC × Bool | .took _ => (.stuck, true) | r => (r, false)
/-- EvalCast's: term, code, label -/
def SC.etm : SC → Tm | .took _ => tm0 | r => r.tm
def SC.ecode : SC → Int | .took _ => 5 | r => r.code
theorem SC.etm_of {r : SC} (h : (r.code == 1) = false) : r.etm = r.tm ∧ r.ecode = r.code := by
  cases r <;> first | exact ⟨rfl, rfl⟩ | (simp [SC.code] at h)
end Go.Proofs.Grad
/- Steps of terms with casts: how large what they make is. No program, no world. -/
namespace Go.Proofs.Grad
theorem E.subst_nodes {x : UInt8} {v : E} (e : E) : (e.subst x v).nodes ≤ e.nodes * (v.nodes + 1) := by
  have hp := v.nodes_pos
  have key : ∀ n : Nat, n ≤ n * (v.nodes + 1) := fun n => by rw [Nat.mul_add]; omega
  induction e with
  | var y => simp only [E.subst]; split <;> simp only [E.nodes] <;> omega
  | lam y t a ih =>
    simp only [E.subst]
    split
    · exact key _
    · simp only [E.nodes, Nat.add_mul, Nat.one_mul] at ih ⊢; omega
  | num _ | tru | fls => simp only [E.subst, E.nodes]; omega
  | _ => simp only [E.subst, E.nodes, Nat.add_mul, Nat.one_mul] at *; omega
def sq (n : Nat) : Nat := n * n + 4 * n
theorem sq_add (a b : Nat) : sq a + b ≤ sq (a + b) := by
  unfold sq
  have : (a + b) * (a + b) = a * a + a * b + (b * a + b * b) := by rw [Nat.add_mul, Nat.mul_add, Nat.mul_add]
  rw [this]; have := Nat.zero_le (a * b); have := Nat.zero_le (b * a); have := Nat.zero_le (b * b); omega
theorem le_sq (n : Nat) : n + 3 ≤ sq n + 3 := by unfold sq; omega
def SR.few (r : SR) (n : Nat) : Prop := match r with | .took e => e.nodes ≤ n | _ => True
theorem SR.map_few {r : SR} {f : E → E} {n m : Nat} (h : r.few n) (hf : ∀ e : E, e.nodes ≤ n → (f e).nodes ≤ m) : (r.map f).few m := by
  cases r with
  | took e => exact hf e h
  | _ => trivial
theorem ruleApp_few (a b : E) : (ruleApp a b).few (sq (E.app a b).nodes) := by
  cases a with
  | lam x t c =>
    simp only [ruleApp, SR.few, E.nodes]
    have h := c.subst_nodes (x := x) (v := b)
    have h2 : c.nodes * (b.nodes + 1) ≤ (1 + (1 + c.nodes + b.nodes)) * (1 + (1 + c.nodes + b.nodes)) := Nat.mul_le_mul (by omega) (by omega)
    unfold sq; omega
  | cast s t l f =>
    cases s <;> cases t <;> try trivial
    simp only [ruleApp, SR.few, E.nodes]
    unfold sq
    have := Nat.zero_le ((1 + (1 + f.nodes + b.nodes)) * (1 + (1 + f.nodes + b.nodes)))
    omega
  | _ => trivial
theorem ruleCast_few (s t : T) (l : Int) (a : E) : (ruleCast s t l a).few (sq (E.cast s t l a).nodes) := by
  have hp := a.nodes_pos
  have h0 : ∀ n : Nat, 1 ≤ n → n + 2 ≤ sq n := fun n h => by unfold sq; have := Nat.zero_le (n * n); omega
  have h1 := h0 (E.cast s t l a).nodes (E.nodes_pos _)
  unfold ruleCast
  split
  · simp only [SR.few, E.nodes] at *; omega
  · split
    · simp only [SR.few, E.nodes] at *; omega
    · split
      · simp only [SR.few, E.nodes] at *; omega
      · unfold ruleOut
        split
        · split
          · split
            · simp only [SR.few, E.nodes] at *; omega
            · trivial
          · trivial
        · trivial
theorem rule1_few {r : SR} {n m : Nat} (h : r.few n) (hn : n ≤ sq m) : r.few (sq m) := by
  cases r with
  | took e => exact Nat.le_trans h hn
  | _ => trivial
theorem E.step_few (e : E) : e.step.few (sq e.nodes) := by
  have hs : ∀ n : Nat, n ≤ sq n := fun n => by unfold sq; have := Nat.zero_le (n * n); omega
  induction e with
  | app a b iha ihb =>
    simp only [E.step]
    split
    · refine SR.map_few iha fun e he => ?_
      simp only [E.nodes]; have := sq_add a.nodes (1 + b.nodes); rw [show 1 + (a.nodes + b.nodes) = a.nodes + (1 + b.nodes) by omega]; omega
    · split
      · refine SR.map_few ihb fun e he => ?_
        simp only [E.nodes]; have := sq_add b.nodes (1 + a.nodes); rw [show 1 + (a.nodes + b.nodes) = b.nodes + (1 + a.nodes) by omega]; omega
      · exact ruleApp_few a b
  | add a b iha ihb =>
    simp only [E.step]
    split
    · refine SR.map_few iha fun e he => ?_
      simp only [E.nodes]; have := sq_add a.nodes (1 + b.nodes); rw [show 1 + (a.nodes + b.nodes) = a.nodes + (1 + b.nodes) by omega]; omega
    · split
      · refine SR.map_few ihb fun e he => ?_
        simp only [E.nodes]; have := sq_add b.nodes (1 + a.nodes); rw [show 1 + (a.nodes + b.nodes) = b.nodes + (1 + a.nodes) by omega]; omega
      · have := hs (E.add a b).nodes; have hp := a.nodes_pos
        cases a <;> cases b <;> first | trivial | (simp only [ruleAdd, SR.few, E.nodes] at *; omega)
  | less a b iha ihb =>
    simp only [E.step]
    split
    · refine SR.map_few iha fun e he => ?_
      simp only [E.nodes]; have := sq_add a.nodes (1 + b.nodes); rw [show 1 + (a.nodes + b.nodes) = a.nodes + (1 + b.nodes) by omega]; omega
    · split
      · refine SR.map_few ihb fun e he => ?_
        simp only [E.nodes]; have := sq_add b.nodes (1 + a.nodes); rw [show 1 + (a.nodes + b.nodes) = b.nodes + (1 + a.nodes) by omega]; omega
      · have := hs (E.less a b).nodes
        cases a <;> cases b <;> first | trivial | (simp only [ruleLess]; split <;> simp only [SR.few, E.nodes] at * <;> omega)
  | pair a b iha ihb =>
    simp only [E.step]
    split
    · refine SR.map_few iha fun e he => ?_
      simp only [E.nodes]; have := sq_add a.nodes (1 + b.nodes); rw [show 1 + (a.nodes + b.nodes) = a.nodes + (1 + b.nodes) by omega]; omega
    · split
      · refine SR.map_few ihb fun e he => ?_
        simp only [E.nodes]; have := sq_add b.nodes (1 + a.nodes); rw [show 1 + (a.nodes + b.nodes) = b.nodes + (1 + a.nodes) by omega]; omega
      · trivial
  | ite a b c iha ihb ihc =>
    simp only [E.step]
    split
    · refine SR.map_few iha fun e he => ?_
      simp only [E.nodes]; have := sq_add a.nodes (1 + (b.nodes + c.nodes)); rw [show 1 + (a.nodes + (b.nodes + c.nodes)) = a.nodes + (1 + (b.nodes + c.nodes)) by omega]; omega
    · have := hs (E.ite a b c).nodes
      cases a <;> first | trivial | (simp only [ruleIte, SR.few, E.nodes] at *; omega)
  | fst a ih | snd a ih =>
    simp only [E.step]
    split
    · refine SR.map_few ih fun e he => ?_
      simp only [E.nodes]; have := sq_add a.nodes 1; rw [show 1 + a.nodes = a.nodes + 1 by omega]; omega
    · have h1 := hs (E.fst a).nodes
      have h3 : (E.fst a).nodes + 2 ≤ sq (E.fst a).nodes + 0 := by unfold sq; simp only [E.nodes]; have := Nat.zero_le ((1 + a.nodes) * (1 + a.nodes)); omega
      cases a with
      | cast s t l f => cases s <;> cases t <;> first | trivial | (simp only [ruleFst, ruleSnd, SR.few, E.nodes] at *; omega)
      | _ => first | trivial | (simp only [ruleFst, ruleSnd, SR.few, E.nodes] at *; omega)
  | cast s t l a ih =>
    simp only [E.step]
    split
    · refine SR.map_few ih fun e he => ?_
      simp only [E.nodes]; have := sq_add a.nodes 1; rw [show 1 + a.nodes = a.nodes + 1 by omega]; omega
    · exact ruleCast_few s t l a
  | _ => trivial
theorem E.step_nodes {e x : E} (h : e.step = .took x) (hn : e.nodes ≤ 200) : x.nodes ≤ 40800 := by
  have h1 := e.step_few
  rw [h] at h1
  have h2 : sq e.nodes ≤ sq 200 := by
    unfold sq; have := Nat.mul_le_mul hn hn; omega
  have : sq 200 = 40800 := rfl
  simp only [SR.few] at h1
  omega
end Go.Proofs.Grad
