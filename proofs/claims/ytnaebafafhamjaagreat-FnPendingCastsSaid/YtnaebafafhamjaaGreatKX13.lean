/- Texts of the proof, one behind another. -/
import Derived.Shelf.Sort.Plain
import Derived.Shelf.Slices.CompactI
import Derived.Shelf.Slices.In.SortNone
import Derived.Test.YtnaebafafhamjaaGreatProg
import Derived.Lib.SlicesCompact
import Derived.Test.YtnaebafafhamjaaGreatKX7
import Derived.Test.YtnaebafafhamjaaGreatKX8
import Derived.Test.YtnaebafafhamjaaGreatKX9
import Derived.Test.YtnaebafafhamjaaGreatKX10
import Derived.Test.YtnaebafafhamjaaGreatKX12
set_option linter.unusedSimpArgs false
set_option linter.unusedVariables false
/- Evaluation of terms with casts. No program, no world. -/
namespace Go.Proofs.Grad
/-- what StepCast makes of a valid term -/
inductive SC where
  | value (e : E) | took (e : E) | blame (l : Int) | stuck | large
def SC.tm : SC → Tm | .value e => e.tm | .took e => e.tm | _ => tm0
def SC.code : SC → Int | .value _ => 0 | .took _ => 1 | .blame _ => 2 | .stuck => 3 | .large => 4
def SC.lab : SC → Int | .blame l => l | _ => 0
def E.sc (e : E) : SC := match e.val with
  | true => .value e
  | false => match e.step with | .took x => (match x.okC with | true => .took x | false => .large) | .blame l => .blame l | .stuck => .stuck
theorem E.sc_took {e x : E} (h : e.sc = .took x) : e.val = false ∧ e.step = .took x ∧ x.okC = true := by
  unfold E.sc at h
  split at h
  · cases h
  · rename_i hv
    split at h
    · rename_i y hy
      split at h
      · rename_i ho; cases h; exact ⟨hv, hy, ho⟩
      · cases h
    · cases h
    · cases h
theorem E.sc_ok {e x : E} (h : e.sc = .took x) : x.okC = true := (E.sc_took h).2.2
theorem E.step_wf {e x : E} (hw : e.wf = true) (hn : e.noA = true) (h : e.step = .took x) : x.wf = true ∧ x.noA = true := by
  have := E.step_ok e hw hn
  rw [h] at this
  simpa [SR.ok] using this
/-- the result of an evaluation -/
def SC.fin : SC → SC × Bool | .took _ => (.stuck, true) | r => (r, false)
end Go.Proofs.Grad
/- The labels of a term's casts. No program, no world. -/
namespace Go.Proofs.Grad
def E.labs : E → List Int
  | .var _ | .num _ | .tru | .fls => []
  | .lam _ _ a | .fst a | .snd a | .asc _ a => a.labs
  | .app a b | .add a b | .less a b | .pair a b => a.labs ++ b.labs
  | .ite a b c => a.labs ++ (b.labs ++ c.labs)
  | .cast _ _ l a => l :: a.labs
end Go.Proofs.Grad
/- Blame: steps keep safety for a label, and a safe label is not blamed. No program, no world. -/
namespace Go.Proofs.Grad
def uns (s t : T) (k l : Int) : Bool := (k == l && !s.pos t) || (k == -l && !s.neg t)
def E.safe : E → Int → Bool
  | .var _, _ | .num _, _ | .tru, _ | .fls, _ => true
  | .lam _ _ a, l | .fst a, l | .snd a, l | .asc _ a, l => a.safe l
  | .app a b, l | .add a b, l | .less a b, l | .pair a b, l => a.safe l && b.safe l
  | .ite a b c, l => a.safe l && (b.safe l && c.safe l)
  | .cast s t k a, l => !uns s t k l && a.safe l
def SR.safe (r : SR) (l : Int) : Prop := match r with | .took e => e.safe l = true | .blame k => k ≠ l | .stuck => True
def SR.from (r : SR) (L : List Int) : Prop := match r with | .took e => ∀ k ∈ e.labs, k ∈ L ∨ -k ∈ L | .blame k => k ∈ L ∨ -k ∈ L | .stuck => True
end Go.Proofs.Grad
/- Lists of numbers sorted and made compact by the library: its contracts, as contracts on shadows. -/
namespace Go.Proofs.Sh
open Go.RowKit
def intR : List Int → List (List C) | [] => [] | z :: l => [.sc (.int .i64 z)] :: intR l
@[go_sem] theorem intR_length (l : List Int) : (intR l).length = l.length := by
  induction l with
  | nil => rfl
  | cons t l ih => simp [intR, ih]
theorem intR_get (l : List Int) (i : Nat) : (intR l)[i]? = (l[i]?).map fun z => [C.sc (.int .i64 z)] := by
  induction l generalizing i with
  | nil => simp [intR]
  | cons t l ih => cases i <;> simp [intR, ih]
/-- the k-th number -/
def num (l : List Int) (k : Nat) : Int := l.getD k 0
@[go_sem] theorem intR_at (l : List Int) (i : Nat) : (intR l)[i]? = match decide ((i : Int) < (l.length : Int)) with | true => some [C.sc (.int .i64 (num l i))] | false => none := by
  rw [intR_get]
  by_cases h : i < l.length
  · have h' : (i : Int) < (l.length : Int) := by omega
    simp [h, h', num]
  · have h' : ¬ (i : Int) < (l.length : Int) := by omega
    simp [h, h']
theorem num_eq {l : List Int} {k : Nat} (h : k < l.length) : num l k = l[k] := by simp [num, h]
theorem intR_append (l m : List Int) : intR (l ++ m) = intR l ++ intR m := by
  induction l with
  | nil => rfl
  | cons t l ih => simp [intR, ih]
theorem numtake {l : List Int} {k : Nat} (h : k < l.length) : l.take (k + 1) = l.take k ++ [num l k] := by
  rw [num_eq h, List.take_succ_eq_append_getElem h]
@[go_sem] theorem intR_tree (l : List Int) : treeRows (intR l) = true := by
  induction l with
  | nil => rfl
  | cons t l ih => simp only [intR, treeRows_cons, treeL_cons, treeL_nil, C.tree, Bool.true_and]; exact ih
@[go_sem] theorem intR_len (l : List Int) : rowsLen 1 (intR l) = true := by
  induction l with
  | nil => rfl
  | cons t l ih => simp only [intR, rowsLen_cons, List.length_cons, List.length_nil]; exact ih
attribute [go_sem] intR
/-! ### a row of numbers written by the library -/
section
variable {X : List Nat} {g : Nat} {ty : TypeId} {zs : List Int} {w : World}
theorem sim_cells (hS : Sim X [g] [⟨1, ty, .mut, intR zs⟩] w) : ∃ cur, w.heap[g]? = some (.cells cur ty (0, 0)) ∧ ∀ j (h : j < zs.length), cur[j]? = some (.int .i64 zs[j]) := by
  obtain ⟨cur, h1, h2⟩ := hS.blk 0 _ g rfl rfl rfl
  refine ⟨cur, h1, fun j h => ?_⟩
  have h3 : (intR zs)[j]? = some [C.sc (.int .i64 zs[j])] := by rw [intR_get]; simp [h]
  obtain ⟨_, h4⟩ := h2 j _ h3
  obtain ⟨u, h5, h6⟩ := h4 0 _ rfl
  simp only [C.rep] at h6
  simpa [h6.1] using h5
theorem sim_holds (hS : Sim X [g] [⟨1, ty, .mut, intR zs⟩] w) : Go.Sort.Holds (Value.int .i64) w g 0 zs.toArray := by
  obtain ⟨cur, h1, h2⟩ := sim_cells hS
  intro j hj
  have hj : j < zs.length := by simpa using hj
  have h3 := h2 j hj
  have hlt := (Array.getElem?_eq_some_iff.1 h3).1
  refine ⟨?_, ?_⟩
  · simp only [World.cell?, h1, Nat.zero_add, h3]
    simp [hj]
  · simp [World.frozen?, h1]
theorem put_heap {d : Array Int} {os : Array Obj} {n : Nat} {cur : Array Value} (hg : w.heap[g]? = some (.cells cur ty (0, 0))) : ∀ b, b < w.heap.size → (Go.Sort.grow (Go.Sort.putRow (Value.int .i64) (Go.Sort.ahead w n) g 0 d) os).heap[b]? = if b = g then some (.cells (Go.Sort.putCells (Value.int .i64) 0 d cur) ty (0, 0)) else w.heap[b]? := by
  intro b hb
  have : (Go.Sort.grow (Go.Sort.putRow (Value.int .i64) (Go.Sort.ahead w n) g 0 d) os).heap[b]? = (Go.Sort.putRow (Value.int .i64) (Go.Sort.ahead w n) g 0 d).heap[b]? := by
    rw [Go.Sort.heap_grow_old]; simpa using hb
  rw [this]
  show (w.heap.modify g _)[b]? = _
  rw [Array.getElem?_modify]
  by_cases h : b = g
  · subst h; simp [hg, Go.Sort.onCells]
  · rw [if_neg h, if_neg (fun e => h e.symm)]
theorem put_sim (hS : Sim X [g] [⟨1, ty, .mut, intR zs⟩] w) {d : List Int} {os : Array Obj} {n : Nat} {l : List Int} (hd : d.length = zs.length) (hl : l.length ≤ d.length) (hp : ∀ j (h : j < l.length), d[j]? = some l[j]) :
    Sim X [g] [⟨1, ty, .mut, intR l⟩] (Go.Sort.grow (Go.Sort.putRow (Value.int .i64) (Go.Sort.ahead w n) g 0 d.toArray) os) ∧ Stp [g] [⟨1, ty, .mut, intR zs⟩] w [g] [⟨1, ty, .mut, intR l⟩] (Go.Sort.grow (Go.Sort.putRow (Value.int .i64) (Go.Sort.ahead w n) g 0 d.toArray) os) := by
  obtain ⟨cur, hg, hc⟩ := sim_cells hS
  have hh := put_heap (w := w) (d := d.toArray) (os := os) (n := n) hg
  have hsz : w.heap.size ≤ (Go.Sort.grow (Go.Sort.putRow (Value.int .i64) (Go.Sort.ahead w n) g 0 d.toArray) os).heap.size := by simp
  have hgs : g < w.heap.size := (Array.getElem?_eq_some_iff.1 hg).1
  refine ⟨⟨rfl, fun x hx => ?_, fun x hx => Nat.lt_of_lt_of_le (hS.xlt x hx) hsz, ?_, ?_, ?_⟩, ⟨⟨rfl, rfl, rfl, hsz, ?_, ?_⟩, fun _ _ h => h, fun x hx _ => hx⟩⟩
  · simp at hx; subst hx; omega
  · intro i b x hi hk hx
    cases i with
    | zero => simp at hx; subst hx; exact hS.out 0 _ g rfl rfl rfl
    | succ i => simp at hi
  · intro i j b b' x hij hi hj
    cases i with
    | zero => cases j with
      | zero => exact absurd rfl hij
      | succ j => simp at hj
    | succ i => simp at hi
  · intro i b x hi hk hx
    cases i with
    | zero =>
      simp at hi hx; subst hi hx
      refine ⟨_, by rw [hh g hgs, if_pos rfl], fun i r hr => ?_⟩
      rw [intR_get] at hr
      by_cases hil : i < l.length
      · rw [List.getElem?_eq_getElem hil] at hr
        simp only [Option.map_some, Option.some.injEq] at hr
        subst hr
        refine ⟨rfl, fun j c hj => ?_⟩
        cases j with
        | zero =>
          simp at hj; subst hj
          have hci := hc i (by omega)
          refine ⟨.int .i64 l[i], ?_, ?_⟩
          · simp only [Go.Sort.putCells, Nat.mul_one, Nat.add_zero, Array.getElem?_mapIdx, hci, Option.map_some]
            have : d.toArray[i]! = l[i] := by
              have := hp i hil
              simp [this]
            rw [if_pos ⟨Nat.zero_le _, by simp; omega⟩, Nat.sub_zero, this]
          · simp only [C.rep]; exact ⟨trivial, rfl⟩
        | succ j => simp at hj
      · rw [List.getElem?_eq_none (by omega)] at hr; simp at hr
    | succ i => simp at hi
  · intro b hb hbl
    have : b ≠ g := fun e => hb (by simp [alive, St.isMut, e])
    rw [hh b hbl, if_neg this]
  · intro b c t hb
    have hbl : b < w.heap.size := (Array.getElem?_eq_some_iff.1 hb).1
    rw [hh b hbl]
    by_cases e : b = g
    · subst e
      rw [hg] at hb
      simp only [Option.some.injEq, Obj.cells.injEq] at hb
      obtain ⟨rfl, rfl, _⟩ := hb
      exact ⟨_, by rw [if_pos rfl], by simp [Go.Sort.putCells]⟩
    · exact ⟨c, by rw [if_neg e]; exact hb, rfl⟩
end
end Go.Proofs.Sh
/- Under which numbers the library's sort and its removal of neighbours stand in this program. -/
namespace Go.Proofs.YtnaebafafhamjaaGreat
set_option maxRecDepth 1000000
set_option maxHeartbeats 40000000
def sortRen : Go.Shelf.Ren := ⟨fun | 189 => 39 | 125 => 80 | 257 => 79 | 128 => 130 | 129 => 131 | 294 => 121 | 295 => 122 | 296 => 123 | 297 => 124 | 298 => 125 | 299 => 126 | 216 => 127 | 300 => 128 | 301 => 129 | 328 => 175 | 329 => 176 | 330 => 177 | 331 => 178 | 332 => 179 | 215 => 180 | 343 => 206 | n => n, fun | 28 => 32 | 3 => 3 | 46 => 99 | 0 => 0 | 51 => 134 | 53 => 136 | 4 => 4 | 183 => 126 | 182 => 125 | 131 => 131 | 5 => 5 | 9 => 9 | 218 => 161 | 222 => 86 | 228 => 178 | 229 => 179 | n => n, fun n => n⟩
theorem sortLays : Lays.n189 Tryz.prog sortRen where
  mixed := by kernel_rfl
  f125 := Tryz.func80.trans (congrArg some (by kernel_rfl))
  f128 := Tryz.func130.trans (congrArg some (by kernel_rfl))
  f129 := Tryz.func131.trans (congrArg some (by kernel_rfl))
  f189 := Tryz.func39.trans (congrArg some (by kernel_rfl))
  f215 := Tryz.func180.trans (congrArg some (by kernel_rfl))
  f216 := Tryz.func127.trans (congrArg some (by kernel_rfl))
  f257 := Tryz.func79.trans (congrArg some (by kernel_rfl))
  f294 := Tryz.func121.trans (congrArg some (by kernel_rfl))
  f295 := Tryz.func122.trans (congrArg some (by kernel_rfl))
  f296 := Tryz.func123.trans (congrArg some (by kernel_rfl))
  f297 := Tryz.func124.trans (congrArg some (by kernel_rfl))
  f298 := Tryz.func125.trans (congrArg some (by kernel_rfl))
  f299 := Tryz.func126.trans (congrArg some (by kernel_rfl))
  f300 := Tryz.func128.trans (congrArg some (by kernel_rfl))
  f301 := Tryz.func129.trans (congrArg some (by kernel_rfl))
  f328 := Tryz.func175.trans (congrArg some (by kernel_rfl))
  f329 := Tryz.func176.trans (congrArg some (by kernel_rfl))
  f330 := Tryz.func177.trans (congrArg some (by kernel_rfl))
  f331 := Tryz.func178.trans (congrArg some (by kernel_rfl))
  f332 := Tryz.func179.trans (congrArg some (by kernel_rfl))
  f343 := Tryz.func206.trans (congrArg some (by kernel_rfl))
  t0 := Tryz.underlying0
  a0 := Tryz.isAgg0
  z0 := Tryz.sizeOf0
  v0 := Tryz.zeroValue0
  t3 := Tryz.underlying3
  a3 := Tryz.isAgg3
  z3 := Tryz.sizeOf3
  v3 := Tryz.zeroValue3
  t4 := Tryz.underlying4
  a4 := Tryz.isAgg4
  z4 := Tryz.sizeOf4
  v4 := Tryz.zeroValue4
  t5 := Tryz.underlying5
  a5 := Tryz.isAgg5
  z5 := Tryz.sizeOf5
  v5 := Tryz.zeroValue5
  t9 := Tryz.underlying9
  a9 := Tryz.isAgg9
  z9 := Tryz.sizeOf9
  v9 := Tryz.zeroValue9
  t28 := Tryz.underlying32
  a28 := Tryz.isAgg32
  z28 := Tryz.sizeOf32
  v28 := Tryz.zeroValue32
  t46 := Tryz.underlying99
  a46 := Tryz.isAgg99
  z46 := Tryz.sizeOf99
  v46 := Tryz.zeroValue99
  t51 := Tryz.underlying134
  a51 := Tryz.isAgg134
  z51 := Tryz.sizeOf134
  v51 := Tryz.zeroValue134
  t53 := Tryz.underlying136
  a53 := Tryz.isAgg136
  z53 := Tryz.sizeOf136
  v53 := Tryz.zeroValue136
  t131 := Tryz.underlying131
  a131 := Tryz.isAgg131
  z131 := Tryz.sizeOf131
  v131 := Tryz.zeroValue131
  t182 := Tryz.underlying125
  a182 := Tryz.isAgg125
  z182 := Tryz.sizeOf125
  v182 := Tryz.zeroValue125
  t183 := Tryz.underlying126
  a183 := Tryz.isAgg126
  z183 := Tryz.sizeOf126
  v183 := Tryz.zeroValue126
  t218 := Tryz.underlying161
  a218 := Tryz.isAgg161
  z218 := Tryz.sizeOf161
  v218 := Tryz.zeroValue161
  t222 := Tryz.underlying86
  a222 := Tryz.isAgg86
  z222 := Tryz.sizeOf86
  v222 := Tryz.zeroValue86
  t228 := Tryz.underlying178
  a228 := Tryz.isAgg178
  z228 := Tryz.sizeOf178
  v228 := Tryz.zeroValue178
  t229 := Tryz.underlying179
  a229 := Tryz.isAgg179
  z229 := Tryz.sizeOf179
  v229 := Tryz.zeroValue179
def compRen : Go.Shelf.Ren := ⟨fun | 20 => 40 | n => n, fun | 22 => 32 | 3 => 3 | 4 => 4 | 0 => 0 | n => n, fun n => n⟩
theorem compLays : Lays2.n20 Tryz.prog compRen where
  mixed := by kernel_rfl
  f20 := Tryz.func40.trans (congrArg some (by kernel_rfl))
  t0 := Tryz.underlying0
  a0 := Tryz.isAgg0
  z0 := Tryz.sizeOf0
  v0 := Tryz.zeroValue0
  t3 := Tryz.underlying3
  a3 := Tryz.isAgg3
  z3 := Tryz.sizeOf3
  v3 := Tryz.zeroValue3
  t4 := Tryz.underlying4
  a4 := Tryz.isAgg4
  z4 := Tryz.sizeOf4
  v4 := Tryz.zeroValue4
  t22 := Tryz.underlying32
  a22 := Tryz.isAgg32
  z22 := Tryz.sizeOf32
  v22 := Tryz.zeroValue32
  i3 := by kernel_rfl
end Go.Proofs.YtnaebafafhamjaaGreat
/- Lists of labels: sorted, each once. No program, no world. -/
namespace Go.Proofs.Grad
/-- each number greater than those before it -/
def Up (l : List Int) : Prop := l.Pairwise (· < ·)
/-- what the library's two calls make of a list -/
def srt (l : List Int) : List Int := l.mergeSort fun x y => decide (x ≤ y)
def setL (l : List Int) : List Int := Lib.compact (srt l)
theorem srt_length (l : List Int) : (srt l).length = l.length := by simp [srt]
theorem compactUpTo_spec (d : Array Int) (hd : ∀ i j, i ≤ j → j < d.size → d[i]! ≤ d[j]!) : ∀ m, m ≤ d.size → Up (Lib.compactUpTo d m) ∧ (∀ x, x ∈ Lib.compactUpTo d m ↔ ∃ j, j < m ∧ d[j]! = x) ∧ (Lib.compactUpTo d m).length ≤ m := by
  intro m
  induction m with
  | zero => intro _; simp [Lib.compactUpTo, Up]
  | succ m ih =>
    intro h
    obtain ⟨h1, h2, h3⟩ := ih (by omega)
    rw [Lib.compactUpTo_succ]
    cases hk : Lib.keeps d m
    · have hk' : ¬ (m = 0 ∨ d[m]! ≠ d[m - 1]!) := of_decide_eq_false hk
      have hm : m ≠ 0 := fun e => hk' (.inl e)
      have he : d[m]! = d[m - 1]! := by
        rcases Decidable.em (d[m]! = d[m - 1]!) with e | e
        · exact e
        · exact absurd (.inr e) hk'
      simp only [Bool.false_eq_true, if_false, List.append_nil]
      refine ⟨h1, fun x => ?_, by omega⟩
      rw [h2]
      constructor
      · rintro ⟨j, hj, e⟩; exact ⟨j, by omega, e⟩
      · rintro ⟨j, hj, e⟩
        rcases Nat.lt_or_ge j m with hj' | hj'
        · exact ⟨j, hj', e⟩
        · exact ⟨m - 1, by omega, by rw [← he, ← e]; congr; omega⟩
    · have hk' : m = 0 ∨ d[m]! ≠ d[m - 1]! := of_decide_eq_true hk
      rw [if_pos rfl]
      refine ⟨?_, fun x => ?_, by simp; omega⟩
      · unfold Up at h1 ⊢
        rw [List.pairwise_append]
        refine ⟨h1, by simp, fun x hx y hy => ?_⟩
        simp at hy; subst hy
        obtain ⟨j, hj, e⟩ := (h2 x).1 hx
        have a1 := hd j (m - 1) (by omega) (by omega)
        have a2 := hd (m - 1) m (by omega) (by omega)
        rcases hk' with e' | e'
        · omega
        · subst e; omega
      · simp only [List.mem_append, List.mem_singleton, h2]
        constructor
        · rintro (⟨j, hj, e⟩ | e)
          · exact ⟨j, by omega, e⟩
          · exact ⟨m, by omega, e.symm⟩
        · rintro ⟨j, hj, e⟩
          rcases Nat.lt_or_ge j m with hj' | hj'
          · exact .inl ⟨j, hj', e⟩
          · exact .inr (by rw [← e]; congr; omega)
theorem setL_spec (l : List Int) : Up (setL l) ∧ (∀ x, x ∈ setL l ↔ x ∈ l) ∧ (setL l).length ≤ l.length := by
  have hs : (srt l).Pairwise (fun x y => decide (x ≤ y) = true) := List.pairwise_mergeSort (fun a b c h1 h2 => by simp at *; omega) (fun a b => by simp; omega) l
  have hd : ∀ i j, i ≤ j → j < (srt l).toArray.size → (srt l).toArray[i]! ≤ (srt l).toArray[j]! := by
    intro i j hij hj
    have hj' : j < (srt l).length := by simpa using hj
    rcases Nat.lt_or_ge i j with h | h
    · have := List.pairwise_iff_getElem.1 hs i j (by omega) hj' h
      simp only [decide_eq_true_eq] at this
      simp only [List.getElem!_toArray]
      rw [List.getElem!_eq_getElem?_getD, List.getElem!_eq_getElem?_getD, List.getElem?_eq_getElem (by omega : i < (srt l).length), List.getElem?_eq_getElem hj']
      exact this
    · have : i = j := by omega
      subst this; exact Int.le_refl _
  obtain ⟨h1, h2, h3⟩ := compactUpTo_spec (srt l).toArray hd (srt l).length (by simp)
  refine ⟨h1, fun x => ?_, Nat.le_trans h3 (Nat.le_of_eq (srt_length l))⟩
  rw [show setL l = Lib.compactUpTo (srt l).toArray (srt l).length from rfl, h2]
  have hm : x ∈ srt l ↔ x ∈ l := List.mem_mergeSort
  rw [← hm]
  constructor
  · rintro ⟨j, hj, e⟩
    simp only [List.getElem!_toArray] at e
    rw [List.getElem!_eq_getElem?_getD, List.getElem?_eq_getElem hj] at e
    exact List.mem_of_getElem (h := hj) e
  · intro h
    obtain ⟨j, hj, e⟩ := List.getElem_of_mem h
    refine ⟨j, hj, ?_⟩
    simp only [List.getElem!_toArray]
    rw [List.getElem!_eq_getElem?_getD, List.getElem?_eq_getElem hj]
    exact e
theorem compact_len (l : List Int) : (Lib.compact l).length ≤ l.length := by
  have : ∀ m, (Lib.compactUpTo l.toArray m).length ≤ m := by
    intro m
    induction m with
    | zero => simp [Lib.compactUpTo]
    | succ m ih => rw [Lib.compactUpTo_succ, List.length_append]; split <;> simp <;> omega
  exact this _
theorem setL_nil_iff (l : List Int) : setL l = [] ↔ l = [] := by
  obtain ⟨_, h, _⟩ := setL_spec l
  constructor
  · intro e
    cases l with
    | nil => rfl
    | cons x l => have := (h x).2 (by simp); rw [e] at this; simp at this
  · rintro rfl
    cases e : setL [] with
    | nil => rfl
    | cons y m => have := (h y).1 (by rw [e]; simp); simp at this
end Go.Proofs.Grad
/- The library's sort and its removal of neighbours, as contracts on shadows. -/
namespace Go.Proofs.Sh
open Go.Proofs.Grad
theorem grow_none (w : World) : Go.Sort.grow w #[] = w := by
  simp [Go.Sort.grow]
attribute [go_sem] List.getD_cons_zero List.getD_cons_succ List.getD_nil
end Go.Proofs.Sh
namespace Go.Proofs.YtnaebafafhamjaaGreat
open Go.RowKit Go.Proofs.Sh Go.Proofs.Grad
theorem one_of_len {μ : List Nat} (h : μ.length = 1) : ∃ g, μ = [g] := by
  match μ, h with
  | [g], _ => exact ⟨g, rfl⟩
theorem sortCall (zs : List Int) (hz : zs.length < 4611686018427387904) : ACl Tryz.prog 39 [.one (.row 1 0 zs.length)] [⟨1, 3, .mut, intR zs⟩] (fun r H' => r = .tup [] ∧ H' = [⟨1, 3, .mut, intR (srt zs)⟩]) := by
  refine ⟨⟨isfn_39, fun X μ w vs hS hr => ?_⟩⟩
  obtain ⟨g, rfl⟩ := one_of_len hS.len
  simp only [AV.repl, AV.rep, C.rep, List.getElem?_cons_zero, Option.some.injEq] at hr
  obtain ⟨u, us, e1, ⟨g', cap, rfl, rfl, h1, h2, h3⟩, rfl⟩ := hr
  obtain rfl : vs = #[.slice (some ⟨g, 0, none⟩) zs.length cap] := by rw [← Array.toList_inj]; exact e1
  have hlt : g < w.heap.size := hS.lt g (by simp)
  refine (Any.slices_Sort_int sortLays g 0 cap zs w (sim_holds hS) hlt hz).mono fun e w' ⟨he, n, os, hw⟩ => ?_
  subst hw
  obtain ⟨h4, h5⟩ := put_sim (os := os) (n := n) hS (d := srt zs) (l := srt zs) (srt_length zs) (Nat.le_refl _) (fun j h => List.getElem?_eq_getElem h)
  exact ⟨.tup [], _, [g], _, he, ⟨rfl, rfl⟩, h4, h5, ⟨#[], rfl, by simp [AV.repl]⟩⟩
theorem sortNil : AFn Tryz.prog 39 [.one (.sl [])] (.tup []) := by
  refine fn_in ⟨⟨isfn_39, fun X μ w vs hS hr => ?_⟩⟩
  simp only [AV.repl, AV.rep, C.rep] at hr
  obtain ⟨u, us, e1, ⟨p, cap, rfl, _⟩, rfl⟩ := hr
  obtain rfl : vs = #[.slice p 0 cap] := by rw [← Array.toList_inj]; exact e1
  refine (Any.slices_Sort_int_none sortLays p cap w).mono fun e w' ⟨he, hw⟩ => ?_
  subst hw
  exact ⟨.tup [], [], μ, _, he, ⟨rfl, rfl⟩, hS, Stp.refl _ _ _, ⟨#[], rfl, by simp [AV.repl]⟩⟩
theorem compCall (zs : List Int) (hz : zs.length < 4611686018427387904) : ACl Tryz.prog 40 [.one (.row 1 0 zs.length)] [⟨1, 3, .mut, intR zs⟩] (fun r H' => r = .one (.row 1 0 (Lib.compact zs).length) ∧ H' = [⟨1, 3, .mut, intR (Lib.compact zs)⟩]) := by
  refine ⟨⟨isfn_40, fun X μ w vs hS hr => ?_⟩⟩
  obtain ⟨g, rfl⟩ := one_of_len hS.len
  simp only [AV.repl, AV.rep, C.rep, List.getElem?_cons_zero, Option.some.injEq] at hr
  obtain ⟨u, us, e1, ⟨g', cap, rfl, rfl, h1, h2, h3⟩, rfl⟩ := hr
  obtain rfl : vs = #[.slice (some ⟨g, 0, none⟩) zs.length cap] := by rw [← Array.toList_inj]; exact e1
  have hc : (Lib.compact zs).length ≤ zs.length := compact_len zs
  refine (Any.slices_Compact_int compLays g 0 cap zs w (sim_holds hS) (by omega) h1).mono fun e w' ⟨he, n, hw⟩ => ?_
  have hw' : w' = Go.Sort.grow (Go.Sort.putRow (Value.int .i64) (Go.Sort.ahead w n) g 0 (Lib.compact zs ++ List.replicate (zs.length - (Lib.compact zs).length) 0).toArray) #[] := by rw [grow_none, hw]
  subst hw'
  obtain ⟨h4, h5⟩ := put_sim (os := #[]) (n := n) hS (d := Lib.compact zs ++ List.replicate (zs.length - (Lib.compact zs).length) 0) (l := Lib.compact zs) (by simp; omega) (by simp) (fun j h => by rw [List.getElem?_append_left h]; exact List.getElem?_eq_getElem h)
  exact ⟨_, _, [g], _, he, ⟨rfl, rfl⟩, h4, h5, ⟨g, cap, rfl, rfl, by omega, h2, h5.keep.row h3⟩⟩
theorem compNil : AFn Tryz.prog 40 [.one (.sl [])] (.one (.sl [])) := by
  refine fn_in ⟨⟨isfn_40, fun X μ w vs hS hr => ?_⟩⟩
  simp only [AV.repl, AV.rep, C.rep] at hr
  obtain ⟨u, us, e1, ⟨p, cap, rfl, h1, h2, h3⟩, rfl⟩ := hr
  obtain rfl : vs = #[.slice p 0 cap] := by rw [← Array.toList_inj]; exact e1
  refine (Any.slices_Compact_int_empty compLays p cap w).mono fun e w' ⟨he, hw⟩ => ?_
  subst hw
  exact ⟨.one (.sl []), [], μ, _, he, ⟨rfl, rfl⟩, hS, Stp.refl _ _ _, by simp only [AV.rep, C.rep]; exact ⟨p, cap, rfl, h1, h2, h3⟩⟩
end Go.Proofs.YtnaebafafhamjaaGreat
/- Sorted labels in the reference. On shadows. -/
namespace Go.Proofs.Grad
end Go.Proofs.Grad
namespace Go.Proofs.YtnaebafafhamjaaGreat
open Go.RowKit Go.Proofs.Sh Go.Proofs.Grad
set_option maxRecDepth 100000
set_option maxHeartbeats 8000000
end Go.Proofs.YtnaebafafhamjaaGreat
