/- Texts of the proof, one behind another. -/
import Derived.Test.YtjmicohbnpbemaaGreatProg
import Derived.Shelf.Sort.Plain
import Derived.Shelf.Slices.CompactI
import Derived.Shelf.Slices.In.SortNone
import Derived.Lib.SlicesCompact
import Derived.Test.YtjmicohbnpbemaaGreatKE9
import Derived.Test.YtjmicohbnpbemaaGreatKE10
import Derived.Test.YtjmicohbnpbemaaGreatKE12
import Derived.Test.YtjmicohbnpbemaaGreatKE27
set_option linter.unusedSimpArgs false
set_option linter.unusedVariables false
/- Under which numbers the library's sort and its removal of neighbours stand in this program. -/
namespace Go.Proofs.YtjmicohbnpbemaaGreat
set_option maxRecDepth 1000000
set_option maxHeartbeats 40000000
def sortRen : Go.Shelf.Ren := ⟨fun | 189 => 38 | 125 => 73 | 257 => 72 | 128 => 120 | 129 => 121 | 294 => 111 | 295 => 112 | 296 => 113 | 297 => 114 | 298 => 115 | 299 => 116 | 216 => 117 | 300 => 118 | 301 => 119 | 328 => 155 | 329 => 156 | 330 => 157 | 331 => 158 | 332 => 159 | 215 => 160 | 343 => 181 | n => n, fun | 28 => 30 | 3 => 3 | 46 => 73 | 0 => 0 | 51 => 108 | 53 => 110 | 4 => 4 | 183 => 100 | 182 => 99 | 131 => 105 | 5 => 5 | 9 => 9 | 218 => 132 | 222 => 67 | 228 => 143 | 229 => 144 | n => n, fun n => n⟩
theorem sortLays : Lays.n189 Tryz.prog sortRen where
  mixed := by kernel_rfl
  f125 := Tryz.func73.trans (congrArg some (by kernel_rfl))
  f128 := Tryz.func120.trans (congrArg some (by kernel_rfl))
  f129 := Tryz.func121.trans (congrArg some (by kernel_rfl))
  f189 := Tryz.func38.trans (congrArg some (by kernel_rfl))
  f215 := Tryz.func160.trans (congrArg some (by kernel_rfl))
  f216 := Tryz.func117.trans (congrArg some (by kernel_rfl))
  f257 := Tryz.func72.trans (congrArg some (by kernel_rfl))
  f294 := Tryz.func111.trans (congrArg some (by kernel_rfl))
  f295 := Tryz.func112.trans (congrArg some (by kernel_rfl))
  f296 := Tryz.func113.trans (congrArg some (by kernel_rfl))
  f297 := Tryz.func114.trans (congrArg some (by kernel_rfl))
  f298 := Tryz.func115.trans (congrArg some (by kernel_rfl))
  f299 := Tryz.func116.trans (congrArg some (by kernel_rfl))
  f300 := Tryz.func118.trans (congrArg some (by kernel_rfl))
  f301 := Tryz.func119.trans (congrArg some (by kernel_rfl))
  f328 := Tryz.func155.trans (congrArg some (by kernel_rfl))
  f329 := Tryz.func156.trans (congrArg some (by kernel_rfl))
  f330 := Tryz.func157.trans (congrArg some (by kernel_rfl))
  f331 := Tryz.func158.trans (congrArg some (by kernel_rfl))
  f332 := Tryz.func159.trans (congrArg some (by kernel_rfl))
  f343 := Tryz.func181.trans (congrArg some (by kernel_rfl))
  t0 := Tryz.underlying0
  a0 := Tryz.isAgg0
  z0 := Tryz.sizeOf0
  v0 := Tryz.zeroValue0
  t3 := Tryz.underlying3
  a3 := Tryz.isAgg3
  z3 := Tryz.sizeOf3
  v3 := Tryz.zeroValue3
  t4 := Tryz.underlying4
  a4 := Tryz.isAgg4
  z4 := Tryz.sizeOf4
  v4 := Tryz.zeroValue4
  t5 := Tryz.underlying5
  a5 := Tryz.isAgg5
  z5 := Tryz.sizeOf5
  v5 := Tryz.zeroValue5
  t9 := Tryz.underlying9
  a9 := Tryz.isAgg9
  z9 := Tryz.sizeOf9
  v9 := Tryz.zeroValue9
  t28 := Tryz.underlying30
  a28 := Tryz.isAgg30
  z28 := Tryz.sizeOf30
  v28 := Tryz.zeroValue30
  t46 := Tryz.underlying73
  a46 := Tryz.isAgg73
  z46 := Tryz.sizeOf73
  v46 := Tryz.zeroValue73
  t51 := Tryz.underlying108
  a51 := Tryz.isAgg108
  z51 := Tryz.sizeOf108
  v51 := Tryz.zeroValue108
  t53 := Tryz.underlying110
  a53 := Tryz.isAgg110
  z53 := Tryz.sizeOf110
  v53 := Tryz.zeroValue110
  t131 := Tryz.underlying105
  a131 := Tryz.isAgg105
  z131 := Tryz.sizeOf105
  v131 := Tryz.zeroValue105
  t182 := Tryz.underlying99
  a182 := Tryz.isAgg99
  z182 := Tryz.sizeOf99
  v182 := Tryz.zeroValue99
  t183 := Tryz.underlying100
  a183 := Tryz.isAgg100
  z183 := Tryz.sizeOf100
  v183 := Tryz.zeroValue100
  t218 := Tryz.underlying132
  a218 := Tryz.isAgg132
  z218 := Tryz.sizeOf132
  v218 := Tryz.zeroValue132
  t222 := Tryz.underlying67
  a222 := Tryz.isAgg67
  z222 := Tryz.sizeOf67
  v222 := Tryz.zeroValue67
  t228 := Tryz.underlying143
  a228 := Tryz.isAgg143
  z228 := Tryz.sizeOf143
  v228 := Tryz.zeroValue143
  t229 := Tryz.underlying144
  a229 := Tryz.isAgg144
  z229 := Tryz.sizeOf144
  v229 := Tryz.zeroValue144
def compRen : Go.Shelf.Ren := ⟨fun | 20 => 39 | n => n, fun | 22 => 30 | 3 => 3 | 4 => 4 | 0 => 0 | n => n, fun n => n⟩
theorem compLays : Lays2.n20 Tryz.prog compRen where
  mixed := by kernel_rfl
  f20 := Tryz.func39.trans (congrArg some (by kernel_rfl))
  t0 := Tryz.underlying0
  a0 := Tryz.isAgg0
  z0 := Tryz.sizeOf0
  v0 := Tryz.zeroValue0
  t3 := Tryz.underlying3
  a3 := Tryz.isAgg3
  z3 := Tryz.sizeOf3
  v3 := Tryz.zeroValue3
  t4 := Tryz.underlying4
  a4 := Tryz.isAgg4
  z4 := Tryz.sizeOf4
  v4 := Tryz.zeroValue4
  t22 := Tryz.underlying30
  a22 := Tryz.isAgg30
  z22 := Tryz.sizeOf30
  v22 := Tryz.zeroValue30
  i3 := by kernel_rfl
end Go.Proofs.YtjmicohbnpbemaaGreat
/- Lists of labels: sorted, each once. No program, no world. -/
namespace Go.Proofs.Grad
/-- n among the numbers of l, ahead of the first greater one -/
def ins (n : Int) : List Int → List Int
  | [] => [n]
  | x :: l => match decide (n < x) with | true => n :: x :: l | false => x :: ins n l
def gtAny (n : Int) (l : List Int) : Bool := l.any fun x => decide (n < x)
def hasN (n : Int) (l : List Int) : Bool := l.any fun x => x == n
/-- n among the numbers of l, once -/
def insF (l : List Int) (n : Int) : List Int := match hasN n l with | true => l | false => ins n l
/-- how far the loop is -/
def insP (n : Int) (l : List Int) : List Int := match gtAny n l with | true => ins n l | false => l
theorem gtAny_snoc (n x : Int) (l : List Int) : gtAny n (l ++ [x]) = (gtAny n l || decide (n < x)) := by simp [gtAny]
theorem hasN_snoc (n x : Int) (l : List Int) : hasN n (l ++ [x]) = (hasN n l || x == n) := by simp [hasN]
theorem ins_snoc (n x : Int) : ∀ l : List Int, ins n (l ++ [x]) = match gtAny n l with | true => ins n l ++ [x] | false => (match decide (n < x) with | true => l ++ [n, x] | false => l ++ [x, n])
  | [] => by simp only [List.nil_append, ins, gtAny, List.any_nil]
  | y :: l => by
    have ih := ins_snoc n x l
    simp only [List.cons_append, ins, gtAny, List.any_cons] at ih ⊢
    cases h : decide (n < y)
    · simp only [Bool.false_or]
      rw [ih]
      split
      · rfl
      · split <;> rfl
    · simp
theorem ins_none (n : Int) : ∀ l : List Int, gtAny n l = false → ins n l = l ++ [n]
  | [], _ => rfl
  | y :: l, h => by
    simp only [gtAny, List.any_cons, Bool.or_eq_false_iff] at h
    simp only [ins, h.1, List.cons_append]
    rw [ins_none n l h.2]
theorem insP_snoc (n x : Int) (l : List Int) : insP n (l ++ [x]) = match gtAny n l with | true => insP n l ++ [x] | false => (match decide (n < x) with | true => insP n l ++ [n] ++ [x] | false => insP n l ++ [x]) := by
  unfold insP
  rw [gtAny_snoc, ins_snoc]
  cases h : gtAny n l
  · cases h2 : decide (n < x) <;> simp
  · simp
theorem ins_length (n : Int) : ∀ l : List Int, (ins n l).length = l.length + 1
  | [] => rfl
  | y :: l => by simp only [ins]; split <;> simp [ins_length n l]
theorem insP_length (n : Int) (l : List Int) : (insP n l).length = l.length + (match gtAny n l with | true => 1 | false => 0) := by
  unfold insP; split <;> simp [ins_length, *]
theorem insF_length (n : Int) (l : List Int) : (insF l n).length ≤ l.length + 1 := by
  unfold insF; split
  · omega
  · rw [ins_length]; exact Nat.le_refl _
theorem insF_cons (n : Int) (l : List Int) : ∃ a m, insF l n = a :: m := by
  cases l with
  | nil => exact ⟨n, [], rfl⟩
  | cons x l =>
    unfold insF
    split
    · exact ⟨_, _, rfl⟩
    · simp only [ins]; split <;> exact ⟨_, _, rfl⟩
/-- each number greater than those before it -/
def Up (l : List Int) : Prop := l.Pairwise (· < ·)
theorem mem_ins (n x : Int) : ∀ l : List Int, x ∈ ins n l ↔ x = n ∨ x ∈ l
  | [] => by simp [ins]
  | y :: l => by
    simp only [ins]; split
    · simp
    · simp [mem_ins n x l]; grind
theorem mem_hasN (n : Int) (l : List Int) : hasN n l = true ↔ n ∈ l := by simp [hasN]
theorem mem_insF (n x : Int) (l : List Int) : x ∈ insF l n ↔ x = n ∨ x ∈ l := by
  unfold insF
  cases h : hasN n l
  · exact mem_ins n x l
  · have := (mem_hasN n l).1 h
    simp only []
    exact ⟨.inr, fun h => h.elim (fun e => e ▸ this) (fun h => h)⟩
theorem up_ins (n : Int) : ∀ l : List Int, Up l → n ∉ l → Up (ins n l)
  | [], _, _ => by simp [ins, Up]
  | y :: l, h, hn => by
    simp only [Up, List.pairwise_cons, List.mem_cons, not_or] at h hn ⊢
    simp only [ins]
    cases h2 : decide (n < y)
    · simp only [List.pairwise_cons]
      refine ⟨fun x hx => ?_, up_ins n l h.2 hn.2⟩
      have h2 := of_decide_eq_false h2
      rcases (mem_ins n x l).1 hx with rfl | hx
      · have := hn.1; omega
      · exact h.1 x hx
    · have h2 := of_decide_eq_true h2
      simp only [List.pairwise_cons, List.mem_cons]
      exact ⟨fun x hx => hx.elim (fun e => e ▸ h2) (fun hx => Int.lt_trans h2 (h.1 x hx)), h⟩
theorem up_insF (n : Int) (l : List Int) (h : Up l) : Up (insF l n) := by
  unfold insF
  cases h2 : hasN n l
  · exact up_ins n l h (fun hm => by rw [(mem_hasN n l).2 hm] at h2; cases h2)
  · exact h
theorem up_ext : ∀ {l m : List Int}, Up l → Up m → (∀ x, x ∈ l ↔ x ∈ m) → l = m
  | [], [], _, _, _ => rfl
  | [], y :: m, _, _, h => absurd ((h y).2 (by simp)) (by simp)
  | x :: l, [], _, _, h => absurd ((h x).1 (by simp)) (by simp)
  | x :: l, y :: m, hl, hm, h => by
    simp only [Up, List.pairwise_cons] at hl hm
    have e : x = y := by
      rcases List.mem_cons.1 ((h x).1 (by simp)) with e | e
      · exact e
      · rcases List.mem_cons.1 ((h y).2 (by simp)) with e' | e'
        · exact e'.symm
        · have := hl.1 y e'; have := hm.1 x e; omega
    subst e
    congr 1
    refine up_ext hl.2 hm.2 fun z => ?_
    constructor
    · intro hz
      rcases List.mem_cons.1 ((h z).1 (List.mem_cons_of_mem _ hz)) with e | e
      · subst e; have := hl.1 z hz; omega
      · exact e
    · intro hz
      rcases List.mem_cons.1 ((h z).2 (List.mem_cons_of_mem _ hz)) with e | e
      · subst e; have := hm.1 z hz; omega
      · exact e
/-- what the library's two calls make of a list -/
def srt (l : List Int) : List Int := l.mergeSort fun x y => decide (x ≤ y)
def setL (l : List Int) : List Int := Lib.compact (srt l)
theorem srt_length (l : List Int) : (srt l).length = l.length := by simp [srt]
theorem compactUpTo_spec (d : Array Int) (hd : ∀ i j, i ≤ j → j < d.size → d[i]! ≤ d[j]!) : ∀ m, m ≤ d.size → Up (Lib.compactUpTo d m) ∧ (∀ x, x ∈ Lib.compactUpTo d m ↔ ∃ j, j < m ∧ d[j]! = x) ∧ (Lib.compactUpTo d m).length ≤ m := by
  intro m
  induction m with
  | zero => intro _; simp [Lib.compactUpTo, Up]
  | succ m ih =>
    intro h
    obtain ⟨h1, h2, h3⟩ := ih (by omega)
    rw [Lib.compactUpTo_succ]
    cases hk : Lib.keeps d m
    · have hk' : ¬ (m = 0 ∨ d[m]! ≠ d[m - 1]!) := of_decide_eq_false hk
      have hm : m ≠ 0 := fun e => hk' (.inl e)
      have he : d[m]! = d[m - 1]! := by
        rcases Decidable.em (d[m]! = d[m - 1]!) with e | e
        · exact e
        · exact absurd (.inr e) hk'
      simp only [Bool.false_eq_true, if_false, List.append_nil]
      refine ⟨h1, fun x => ?_, by omega⟩
      rw [h2]
      constructor
      · rintro ⟨j, hj, e⟩; exact ⟨j, by omega, e⟩
      · rintro ⟨j, hj, e⟩
        rcases Nat.lt_or_ge j m with hj' | hj'
        · exact ⟨j, hj', e⟩
        · exact ⟨m - 1, by omega, by rw [← he, ← e]; congr; omega⟩
    · have hk' : m = 0 ∨ d[m]! ≠ d[m - 1]! := of_decide_eq_true hk
      rw [if_pos rfl]
      refine ⟨?_, fun x => ?_, by simp; omega⟩
      · unfold Up at h1 ⊢
        rw [List.pairwise_append]
        refine ⟨h1, by simp, fun x hx y hy => ?_⟩
        simp at hy; subst hy
        obtain ⟨j, hj, e⟩ := (h2 x).1 hx
        have a1 := hd j (m - 1) (by omega) (by omega)
        have a2 := hd (m - 1) m (by omega) (by omega)
        rcases hk' with e' | e'
        · omega
        · subst e; omega
      · simp only [List.mem_append, List.mem_singleton, h2]
        constructor
        · rintro (⟨j, hj, e⟩ | e)
          · exact ⟨j, by omega, e⟩
          · exact ⟨m, by omega, e.symm⟩
        · rintro ⟨j, hj, e⟩
          rcases Nat.lt_or_ge j m with hj' | hj'
          · exact .inl ⟨j, hj', e⟩
          · exact .inr (by rw [← e]; congr; omega)
theorem setL_spec (l : List Int) : Up (setL l) ∧ (∀ x, x ∈ setL l ↔ x ∈ l) ∧ (setL l).length ≤ l.length := by
  have hs : (srt l).Pairwise (fun x y => decide (x ≤ y) = true) := List.pairwise_mergeSort (fun a b c h1 h2 => by simp at *; omega) (fun a b => by simp; omega) l
  have hd : ∀ i j, i ≤ j → j < (srt l).toArray.size → (srt l).toArray[i]! ≤ (srt l).toArray[j]! := by
    intro i j hij hj
    have hj' : j < (srt l).length := by simpa using hj
    rcases Nat.lt_or_ge i j with h | h
    · have := List.pairwise_iff_getElem.1 hs i j (by omega) hj' h
      simp only [decide_eq_true_eq] at this
      simp only [List.getElem!_toArray]
      rw [List.getElem!_eq_getElem?_getD, List.getElem!_eq_getElem?_getD, List.getElem?_eq_getElem (by omega : i < (srt l).length), List.getElem?_eq_getElem hj']
      exact this
    · have : i = j := by omega
      subst this; exact Int.le_refl _
  obtain ⟨h1, h2, h3⟩ := compactUpTo_spec (srt l).toArray hd (srt l).length (by simp)
  refine ⟨h1, fun x => ?_, Nat.le_trans h3 (Nat.le_of_eq (srt_length l))⟩
  rw [show setL l = Lib.compactUpTo (srt l).toArray (srt l).length from rfl, h2]
  have hm : x ∈ srt l ↔ x ∈ l := List.mem_mergeSort
  rw [← hm]
  constructor
  · rintro ⟨j, hj, e⟩
    simp only [List.getElem!_toArray] at e
    rw [List.getElem!_eq_getElem?_getD, List.getElem?_eq_getElem hj] at e
    exact List.mem_of_getElem (h := hj) e
  · intro h
    obtain ⟨j, hj, e⟩ := List.getElem_of_mem h
    refine ⟨j, hj, ?_⟩
    simp only [List.getElem!_toArray]
    rw [List.getElem!_eq_getElem?_getD, List.getElem?_eq_getElem hj]
    exact e
/-- one after another -/
def insL (out : List Int) (l : List Int) : List Int := l.foldl insF out
theorem insL_spec (l : List Int) : ∀ out, Up out → Up (insL out l) ∧ ∀ x, x ∈ insL out l ↔ x ∈ out ∨ x ∈ l := by
  induction l with
  | nil => intro out h; exact ⟨h, fun x => by simp [insL]⟩
  | cons n l ih =>
    intro out h
    obtain ⟨h1, h2⟩ := ih (insF out n) (up_insF n out h)
    refine ⟨h1, fun x => ?_⟩
    rw [show insL out (n :: l) = insL (insF out n) l from rfl, h2, mem_insF]
    simp only [List.mem_cons]; grind
theorem insL_setL (l : List Int) : insL [] l = setL l := by
  obtain ⟨h1, h2⟩ := insL_spec l [] (by simp [Up])
  obtain ⟨h3, h4, _⟩ := setL_spec l
  exact up_ext h1 h3 fun x => by rw [h2, h4]; simp
theorem compact_len (l : List Int) : (Lib.compact l).length ≤ l.length := by
  have : ∀ m, (Lib.compactUpTo l.toArray m).length ≤ m := by
    intro m
    induction m with
    | zero => simp [Lib.compactUpTo]
    | succ m ih => rw [Lib.compactUpTo_succ, List.length_append]; split <;> simp <;> omega
  exact this _
theorem insL_append (out l m : List Int) : insL out (l ++ m) = insL (insL out l) m := by simp [insL]
theorem insL_len (l : List Int) : ∀ out, (insL out l).length ≤ out.length + l.length := by
  induction l with
  | nil => intro out; simp [insL]
  | cons n l ih => intro out; have := ih (insF out n); have := insF_length n out; simp only [insL, List.foldl_cons, List.length_cons] at *; omega
theorem setL_nil_iff (l : List Int) : setL l = [] ↔ l = [] := by
  obtain ⟨_, h, _⟩ := setL_spec l
  constructor
  · intro e
    cases l with
    | nil => rfl
    | cons x l => have := (h x).2 (by simp); rw [e] at this; simp at this
  · rintro rfl
    cases e : setL [] with
    | nil => rfl
    | cons y m => have := (h y).1 (by rw [e]; simp); simp at this
end Go.Proofs.Grad
/- The library's sort and its removal of neighbours, as contracts on shadows. -/
namespace Go.Proofs.Sh
open Go.Proofs.Grad
theorem grow_none (w : World) : Go.Sort.grow w #[] = w := by
  simp [Go.Sort.grow]
attribute [go_sem] List.getD_cons_zero List.getD_cons_succ List.getD_nil
end Go.Proofs.Sh
namespace Go.Proofs.YtjmicohbnpbemaaGreat
open Go.RowKit Go.Proofs.Sh Go.Proofs.Grad
theorem one_of_len {μ : List Nat} (h : μ.length = 1) : ∃ g, μ = [g] := by
  match μ, h with
  | [g], _ => exact ⟨g, rfl⟩
theorem sortCall (zs : List Int) (hz : zs.length < 4611686018427387904) : ACl Tryz.prog 38 [.one (.row 1 0 zs.length)] [⟨1, 3, .mut, intR zs⟩] (fun r H' => r = .tup [] ∧ H' = [⟨1, 3, .mut, intR (srt zs)⟩]) := by
  refine ⟨⟨isfn_38, fun X μ w vs hS hr => ?_⟩⟩
  obtain ⟨g, rfl⟩ := one_of_len hS.len
  simp only [AV.repl, AV.rep, C.rep, List.getElem?_cons_zero, Option.some.injEq] at hr
  obtain ⟨u, us, e1, ⟨g', cap, rfl, rfl, h1, h2, h3⟩, rfl⟩ := hr
  obtain rfl : vs = #[.slice (some ⟨g, 0, none⟩) zs.length cap] := by rw [← Array.toList_inj]; exact e1
  have hlt : g < w.heap.size := hS.lt g (by simp)
  refine (Any.slices_Sort_int sortLays g 0 cap zs w (sim_holds hS) hlt hz).mono fun e w' ⟨he, n, os, hw⟩ => ?_
  subst hw
  obtain ⟨h4, h5⟩ := put_sim (os := os) (n := n) hS (d := srt zs) (l := srt zs) (srt_length zs) (Nat.le_refl _) (fun j h => List.getElem?_eq_getElem h)
  exact ⟨.tup [], _, [g], _, he, ⟨rfl, rfl⟩, h4, h5, ⟨#[], rfl, by simp [AV.repl]⟩⟩
theorem sortNil : AFn Tryz.prog 38 [.one (.sl [])] (.tup []) := by
  refine fn_in ⟨⟨isfn_38, fun X μ w vs hS hr => ?_⟩⟩
  simp only [AV.repl, AV.rep, C.rep] at hr
  obtain ⟨u, us, e1, ⟨p, cap, rfl, _⟩, rfl⟩ := hr
  obtain rfl : vs = #[.slice p 0 cap] := by rw [← Array.toList_inj]; exact e1
  refine (Any.slices_Sort_int_none sortLays p cap w).mono fun e w' ⟨he, hw⟩ => ?_
  subst hw
  exact ⟨.tup [], [], μ, _, he, ⟨rfl, rfl⟩, hS, Stp.refl _ _ _, ⟨#[], rfl, by simp [AV.repl]⟩⟩
theorem compCall (zs : List Int) (hz : zs.length < 4611686018427387904) : ACl Tryz.prog 39 [.one (.row 1 0 zs.length)] [⟨1, 3, .mut, intR zs⟩] (fun r H' => r = .one (.row 1 0 (Lib.compact zs).length) ∧ H' = [⟨1, 3, .mut, intR (Lib.compact zs)⟩]) := by
  refine ⟨⟨isfn_39, fun X μ w vs hS hr => ?_⟩⟩
  obtain ⟨g, rfl⟩ := one_of_len hS.len
  simp only [AV.repl, AV.rep, C.rep, List.getElem?_cons_zero, Option.some.injEq] at hr
  obtain ⟨u, us, e1, ⟨g', cap, rfl, rfl, h1, h2, h3⟩, rfl⟩ := hr
  obtain rfl : vs = #[.slice (some ⟨g, 0, none⟩) zs.length cap] := by rw [← Array.toList_inj]; exact e1
  have hc : (Lib.compact zs).length ≤ zs.length := compact_len zs
  refine (Any.slices_Compact_int compLays g 0 cap zs w (sim_holds hS) (by omega) h1).mono fun e w' ⟨he, n, hw⟩ => ?_
  have hw' : w' = Go.Sort.grow (Go.Sort.putRow (Value.int .i64) (Go.Sort.ahead w n) g 0 (Lib.compact zs ++ List.replicate (zs.length - (Lib.compact zs).length) 0).toArray) #[] := by rw [grow_none, hw]
  subst hw'
  obtain ⟨h4, h5⟩ := put_sim (os := #[]) (n := n) hS (d := Lib.compact zs ++ List.replicate (zs.length - (Lib.compact zs).length) 0) (l := Lib.compact zs) (by simp; omega) (by simp) (fun j h => by rw [List.getElem?_append_left h]; exact List.getElem?_eq_getElem h)
  exact ⟨_, _, [g], _, he, ⟨rfl, rfl⟩, h4, h5, ⟨g, cap, rfl, rfl, by omega, h2, h5.keep.row h3⟩⟩
theorem compNil : AFn Tryz.prog 39 [.one (.sl [])] (.one (.sl [])) := by
  refine fn_in ⟨⟨isfn_39, fun X μ w vs hS hr => ?_⟩⟩
  simp only [AV.repl, AV.rep, C.rep] at hr
  obtain ⟨u, us, e1, ⟨p, cap, rfl, h1, h2, h3⟩, rfl⟩ := hr
  obtain rfl : vs = #[.slice p 0 cap] := by rw [← Array.toList_inj]; exact e1
  refine (Any.slices_Compact_int_empty compLays p cap w).mono fun e w' ⟨he, hw⟩ => ?_
  subst hw
  exact ⟨.one (.sl []), [], μ, _, he, ⟨rfl, rfl⟩, hS, Stp.refl _ _ _, by simp only [AV.rep, C.rep]; exact ⟨p, cap, rfl, h1, h2, h3⟩⟩
end Go.Proofs.YtjmicohbnpbemaaGreat
/- Sorted labels in the reference. On shadows. -/
namespace Go.Proofs.Grad
theorem gtAny_take {l : List Int} {k : Nat} (n : Int) (h : k < l.length) : gtAny n (l.take (k + 1)) = (gtAny n (l.take k) || decide (n < Sh.num l k)) := by rw [Sh.numtake h, gtAny_snoc]
theorem hasN_take {l : List Int} {k : Nat} (n : Int) (h : k < l.length) : hasN n (l.take (k + 1)) = (hasN n (l.take k) || Sh.num l k == n) := by rw [Sh.numtake h, hasN_snoc]
theorem insP_take {l : List Int} {k : Nat} (n : Int) (h : k < l.length) : insP n (l.take (k + 1)) = match gtAny n (l.take k) with | true => insP n (l.take k) ++ [Sh.num l k] | false => (match decide (n < Sh.num l k) with | true => insP n (l.take k) ++ [n] ++ [Sh.num l k] | false => insP n (l.take k) ++ [Sh.num l k]) := by rw [Sh.numtake h]; exact insP_snoc n (Sh.num l k) (l.take k)
theorem hasN_of_take {l : List Int} {k : Nat} (n : Int) (h : k < l.length) (e : (Sh.num l k == n) = true) : hasN n l = true := by
  rw [mem_hasN, ← (beq_iff_eq.1 e), Sh.num_eq h]
  exact List.getElem_mem h
end Go.Proofs.Grad
namespace Go.Proofs.YtjmicohbnpbemaaGreat
open Go.RowKit Go.Proofs.Sh Go.Proofs.Grad
set_option maxRecDepth 100000
set_option maxHeartbeats 8000000
theorem l4Sorted (l : List Int) (n : Int) (hl : l.length < 1000000) : AFn Tryz.prog 47 [.one (.sl (intR l)), .one (.sc (.int .i64 n))] (.one (.sl (intR (insF l n)))) := by
  refine fn_in ?_; refine acl_in Tryz.func47 rfl isfn_47 (Nat.le_of_ble_eq_true rfl) (fun R hR => ?_); rw [Tryz.results47] at hR; refine wg_run ?_; (simp only [Tryz.f47, go_sem])
  repeat' (first | (((first | apply sp1 | apply sp2 | apply sp3 | apply sp4 | apply sp5 | apply sp6 | apply sp7) <;> intro hb) <;> (simp only [go_sem, hb])) | ((first | apply wm_done | apply wt_done | apply wg_run | refine fk ?_ ?_) <;> (simp only [go_sem])))
  refine wd_for [0, 1, 5, 6, 7] (fun (x : Nat × Bool × List Int) => [.one (.sl (intR l)), .one (.sc (.int .i64 n)), .one (.row 1 0 x.2.2.length), .one (.sc (.bool x.2.1)), .one (.sc (.int .i64 (x.1 : Nat)))]) (fun x => [⟨1, 3, .mut, intR x.2.2⟩])
    (fun x => x.1 ≤ l.length ∧ hasN n (l.take x.1) = false ∧ x.2.1 = gtAny n (l.take x.1) ∧ x.2.2 = insP n (l.take x.1)) (fun x => l.length - x.1) (0, false, []) ⟨Nat.zero_le _, rfl, rfl, rfl⟩ (hat [0] (hI := ⟨rfl, rfl⟩)) ?_
  rintro ⟨k, d, acc⟩ ⟨hk, hno, hd, hacc⟩ G hG
  simp only [] at hk hno hd hacc hG
  have hal : acc.length ≤ l.length + 1 := by
    rw [hacc, insP_length, List.length_take]; split <;> omega
  refine wg_run ?_
  (simp only [go_sem])
  ((first | apply sp1 | apply sp2 | apply sp3 | apply sp4 | apply sp5 | apply sp6 | apply sp7) <;> intro hb) <;> (simp only [go_sem, hb])
  · have hk1 : k < l.length := by have := of_decide_eq_true hb; omega
    have hw1 := wrap_succ hk1 (by omega)
    have hcap : (acc.length + 1) * 8 ≤ 140737488355328 := by omega
    have hcap2 : (acc.length + 1 + 1) * 8 ≤ 140737488355328 := by omega
    cases e1 : (Sh.num l k == n)
    · have hno' : hasN n (l.take (k + 1)) = false := by rw [hasN_take n hk1, hno, e1]; rfl
      have hip := insP_take n hk1
      have hgp := gtAny_take n hk1
      rw [← hd, ← hacc] at hip
      rw [← hd] at hgp
      cases d
      · cases e2 : decide (Sh.num l k > n)
        · have e2' : decide (n < Sh.num l k) = false := e2
          rw [e2'] at hip hgp
          repeat' (first | (first | (simp only [go_sem, hb, hw1, hcap, e1, e2]) | (((first | apply sp1 | apply sp2 | apply sp3 | apply sp4 | apply sp5 | apply sp6 | apply sp7) <;> intro hb) <;> (simp only [go_sem, hb, hb, hw1, hcap, e1, e2])) | ((first | apply wm_done | apply wt_done | apply wg_run | refine fk ?_ ?_) <;> (simp only [go_sem, hb, hw1, hcap, e1, e2]))) | ((first | refine mxq6 [] ?_ | refine mxq5 [] ?_ | refine mxq4 [] ?_ | refine mxq3 [] ?_ | refine mxq2 [] ?_ | refine mxq1 [] ?_ | refine mxq0 [] ?_ | fail); (simp only [go_sem, hb, hcap, e1, e2])) | fail)
          refine hG (k + 1, false, acc ++ [Sh.num l k]) _ _ ⟨by omega, hno', by rw [hgp]; rfl, hip.symm⟩ (by simp only []; omega) (hat [2] (hI := ⟨?_, ?_⟩))
          · simp only [List.length_append, List.length_cons, List.length_nil]
          · simp only [intR_append, intR]
        · have e2' : decide (n < Sh.num l k) = true := e2
          rw [e2'] at hip hgp
          repeat' (first | (first | (simp only [go_sem, hb, hw1, hcap, hcap2, e1, e2]) | (((first | apply sp1 | apply sp2 | apply sp3 | apply sp4 | apply sp5 | apply sp6 | apply sp7) <;> intro hb) <;> (simp only [go_sem, hb, hb, hw1, hcap, hcap2, e1, e2])) | ((first | apply wm_done | apply wt_done | apply wg_run | refine fk ?_ ?_) <;> (simp only [go_sem, hb, hw1, hcap, hcap2, e1, e2]))) | ((first | refine mxq6 [] ?_ | refine mxq5 [] ?_ | refine mxq4 [] ?_ | refine mxq3 [] ?_ | refine mxq2 [] ?_ | refine mxq1 [] ?_ | refine mxq0 [] ?_ | fail); (simp only [go_sem, hb, hcap, hcap2, e1, e2])) | fail)
          refine hG (k + 1, true, acc ++ [n] ++ [Sh.num l k]) _ _ ⟨by omega, hno', by rw [hgp]; rfl, hip.symm⟩ (by simp only []; omega) (hat [4] (hI := ⟨?_, ?_⟩))
          · simp only [List.length_append, List.length_cons, List.length_nil]
          · simp only [intR_append, intR]
      · repeat' (first | (first | (simp only [go_sem, hb, hw1, hcap, e1]) | (((first | apply sp1 | apply sp2 | apply sp3 | apply sp4 | apply sp5 | apply sp6 | apply sp7) <;> intro hb) <;> (simp only [go_sem, hb, hb, hw1, hcap, e1])) | ((first | apply wm_done | apply wt_done | apply wg_run | refine fk ?_ ?_) <;> (simp only [go_sem, hb, hw1, hcap, e1]))) | ((first | refine mxq6 [] ?_ | refine mxq5 [] ?_ | refine mxq4 [] ?_ | refine mxq3 [] ?_ | refine mxq2 [] ?_ | refine mxq1 [] ?_ | refine mxq0 [] ?_ | fail); (simp only [go_sem, hb, hcap, e1])) | fail)
        refine hG (k + 1, true, acc ++ [Sh.num l k]) _ _ ⟨by omega, hno', by rw [hgp]; rfl, hip.symm⟩ (by simp only []; omega) (hat [2] (hI := ⟨?_, ?_⟩))
        · simp only [List.length_append, List.length_cons, List.length_nil]
        · simp only [intR_append, intR]
    · repeat' (first | (first | (simp only [go_sem, hb, e1]) | (((first | apply sp1 | apply sp2 | apply sp3 | apply sp4 | apply sp5 | apply sp6 | apply sp7) <;> intro hb) <;> (simp only [go_sem, hb, hb, e1])) | ((first | apply wm_done | apply wt_done | apply wg_run | refine fk ?_ ?_) <;> (simp only [go_sem, hb, e1]))) | ((first | refine mxq6 [] ?_ | refine mxq5 [] ?_ | refine mxq4 [] ?_ | refine mxq3 [] ?_ | refine mxq2 [] ?_ | refine mxq1 [] ?_ | refine mxq0 [] ?_ | fail); (simp only [go_sem, hb, e1])) | fail)
      (refine hR _ (rat [] (hK := ⟨?_, rfl⟩)))
      unfold insF; rw [hasN_of_take n hk1 e1]
  · have hk1 : l.take k = l := List.take_of_length_le (by have := of_decide_eq_false hb; omega)
    rw [hk1] at hno hd hacc
    have hcap : (acc.length + 1) * 8 ≤ 140737488355328 := by omega
    cases d
    · repeat' (first | (first | (simp only [go_sem, hb, hcap]) | (((first | apply sp1 | apply sp2 | apply sp3 | apply sp4 | apply sp5 | apply sp6 | apply sp7) <;> intro hb) <;> (simp only [go_sem, hb, hb, hcap])) | ((first | apply wm_done | apply wt_done | apply wg_run | refine fk ?_ ?_) <;> (simp only [go_sem, hb, hcap]))) | ((first | refine mxq6 [] ?_ | refine mxq5 [] ?_ | refine mxq4 [] ?_ | refine mxq3 [] ?_ | refine mxq2 [] ?_ | refine mxq1 [] ?_ | refine mxq0 [] ?_ | fail); (simp only [go_sem, hb, hcap])) | fail)
      (refine hR _ (rat [] (hK := ⟨?_, rfl⟩)))
      unfold insF; rw [hno]; simp only []; rw [ins_none n l hd.symm, hacc]; unfold insP; rw [← hd]; simp only [intR_append, intR]
    · repeat' (first | (first | (simp only [go_sem, hb, hcap]) | (((first | apply sp1 | apply sp2 | apply sp3 | apply sp4 | apply sp5 | apply sp6 | apply sp7) <;> intro hb) <;> (simp only [go_sem, hb, hb, hcap])) | ((first | apply wm_done | apply wt_done | apply wg_run | refine fk ?_ ?_) <;> (simp only [go_sem, hb, hcap]))) | ((first | refine mxq6 [] ?_ | refine mxq5 [] ?_ | refine mxq4 [] ?_ | refine mxq3 [] ?_ | refine mxq2 [] ?_ | refine mxq1 [] ?_ | refine mxq0 [] ?_ | fail); (simp only [go_sem, hb, hcap])) | fail)
      (refine hR _ (rat [] (hK := ⟨?_, rfl⟩)))
      unfold insF insP at *; rw [hno]; rw [← hd] at hacc; simp only [] at hacc ⊢; rw [hacc]
end Go.Proofs.YtjmicohbnpbemaaGreat
/- Terms: the casts of a term, on shadows. -/
namespace Go.Proofs.Grad
def ownCast (t : Tm) : List Tm := match t.kind == 14 with | true => [t] | false => []
mutual
def Tm.castsL : Tm → List Tm | .mk k n m t f b l => ownCast (.mk k n m t f b l) ++ Tm.castsLs l
def Tm.castsLs : List Tm → List Tm | [] => [] | t :: l => t.castsL ++ Tm.castsLs l
end
theorem Tm.castsL_eq (t : Tm) : t.castsL = ownCast t ++ Tm.castsLs t.kids := by cases t; rfl
theorem ownCast_len (t : Tm) : (ownCast t).length ≤ 1 := by unfold ownCast; split <;> simp
mutual
theorem Tm.castsL_len : ∀ t : Tm, t.castsL.length ≤ t.nodes
  | .mk k n m t f b l => by have := Tm.castsLs_len l; have := ownCast_len (.mk k n m t f b l); simp only [Tm.castsL, Tm.nodes, List.length_append]; omega
theorem Tm.castsLs_len : ∀ l : List Tm, (Tm.castsLs l).length ≤ Tm.nodess l
  | [] => by simp [Tm.castsLs]
  | t :: l => by have := Tm.castsL_len t; have := Tm.castsLs_len l; simp only [Tm.castsLs, Tm.nodess, List.length_append]; omega
end
theorem Tm.castsLs_append (l m : List Tm) : Tm.castsLs (l ++ m) = Tm.castsLs l ++ Tm.castsLs m := by
  induction l with
  | nil => rfl
  | cons t l ih => simp [Tm.castsLs, ih]
theorem Tm.castsLs_take {l : List Tm} {k : Nat} (h : k < l.length) : Tm.castsLs (l.take (k + 1)) = Tm.castsLs (l.take k) ++ (Sh.teKid l k).castsL := by
  rw [Sh.tetake_kid h, Tm.castsLs_append]; simp [Tm.castsLs]
theorem Tm.castsLs_take_len (l : List Tm) (k : Nat) : (Tm.castsLs (l.take k)).length ≤ Tm.nodess l := Nat.le_trans (Tm.castsLs_len _) (Tm.nodess_le_take l k)
end Go.Proofs.Grad
namespace Go.Proofs.Sh
attribute [go_sem] List.getD_cons_zero List.getD_cons_succ List.getD_nil
end Go.Proofs.Sh
namespace Go.Proofs.YtjmicohbnpbemaaGreat
open Go.RowKit Go.Proofs.Sh Go.Proofs.Grad
set_option maxRecDepth 100000
set_option maxHeartbeats 8000000
theorem iCasts (n : Nat) (hn : n ≤ 274877906944) : ∀ t : Tm, t.size < n → AFn Tryz.prog 36 [.agg (teC t)] (.one (.sl (teR t.castsL))) := by
  induction n with
  | zero => intro t h; omega
  | succ n ih =>
    intro t h
    have hl := telen_lt t
    have hnl := t.nodes_le
    have hne := t.nodes_eq
    have e0 : ownCast t = (match t.kind == 14 with | true => [t] | false => []) := rfl
    cases hty : (t.kind == 14)
    all_goals
      rw [hty] at e0
      simp only [] at e0
      refine fn_in ?_; refine acl_in Tryz.func36 rfl isfn_36 (Nat.le_of_ble_eq_true rfl) (fun R hR => ?_); rw [Tryz.results36] at hR; refine wg_run ?_; (simp only [Tryz.f36, go_sem])
      repeat' (first | (simp only [go_sem, hty]) | (((first | apply sp1 | apply sp2 | apply sp3 | apply sp4 | apply sp5 | apply sp6 | apply sp7) <;> intro hb) <;> (simp only [go_sem, hb, hty])) | ((first | apply wm_done | apply wt_done | apply wg_run | refine fk ?_ ?_) <;> (simp only [go_sem, hty])))
      first
        | refine wd_for [3, 14, 15, 16] (fun (x : Nat × List Tm) => [.one (match x.2 with | [] => .sc (.slice none 0 0) | a :: l => .row 9 0 (l.length + 1)), .one (.sl (teR t.kids)), .one (.sc (.int .i64 t.kids.length)), .one (.sc (.int .i64 (x.1 : Nat)))])
            (fun x => match x.2 with | [] => [] | a :: l => [⟨9, 28, .mut, teR (a :: l)⟩])
            (fun x => x.1 ≤ t.kids.length ∧ x.2 = ownCast t ++ Tm.castsLs (t.kids.take x.1)) (fun x => t.kids.length - x.1) (0, []) ⟨Nat.zero_le _, by rw [e0]; rfl⟩ (hat [] (hI := ⟨rfl, rfl⟩)) ?_
        | refine wd_for [3, 14, 15, 16] (fun (x : Nat × List Tm) => [.one (match x.2 with | [] => .sc (.slice none 0 0) | a :: l => .row 9 0 (l.length + 1)), .one (.sl (teR t.kids)), .one (.sc (.int .i64 t.kids.length)), .one (.sc (.int .i64 (x.1 : Nat)))])
            (fun x => match x.2 with | [] => [] | a :: l => [⟨9, 28, .mut, teR (a :: l)⟩])
            (fun x => x.1 ≤ t.kids.length ∧ x.2 = ownCast t ++ Tm.castsLs (t.kids.take x.1)) (fun x => t.kids.length - x.1) (0, [t]) ⟨Nat.zero_le _, by rw [e0]; rfl⟩ (hat [2] (hI := ⟨rfl, rfl⟩)) ?_
      rintro ⟨k, acc⟩ ⟨hk, hacc⟩ G hG
      simp only [] at hk hacc hG
      have hal : acc.length ≤ 1 + Tm.nodess t.kids := by
        have := ownCast_len t; have := Tm.castsLs_take_len t.kids k
        rw [hacc, List.length_append]; omega
      rcases acc with _ | ⟨a, acc⟩
      all_goals
        refine wg_run ?_
        (simp only [go_sem])
        ((first | apply sp1 | apply sp2 | apply sp3 | apply sp4 | apply sp5 | apply sp6 | apply sp7) <;> intro hb) <;> (simp only [go_sem, hb])
        · have hk1 : k < t.kids.length := by have := of_decide_eq_true hb; omega
          have hw1 := wrap_succ hk1 (by omega)
          have hc := ih (by omega) (teKid t.kids k) (by have := teKid_lt hk1; omega)
          have hkl := Tm.castsL_len (teKid t.kids k)
          have hkn := Tm.nodess_le_take t.kids (k + 1)
          rw [Tm.nodess_take hk1] at hkn
          have hnx : ownCast t ++ Tm.castsLs (t.kids.take (k + 1)) = ownCast t ++ Tm.castsLs (t.kids.take k) ++ (teKid t.kids k).castsL := by rw [Tm.castsLs_take hk1, List.append_assoc]
          rw [← hacc] at hnx
          cases hkt : (teKid t.kids k).castsL with
          | nil =>
            rw [hkt] at hc hnx
            repeat' (first | (first | (simp only [go_sem, hw1, hb]) | (((first | apply sp1 | apply sp2 | apply sp3 | apply sp4 | apply sp5 | apply sp6 | apply sp7) <;> intro hb) <;> (simp only [go_sem, hb, hw1, hb])) | ((first | apply wm_done | apply wt_done | apply wg_run | refine fk ?_ ?_) <;> (simp only [go_sem, hw1, hb]))) | (first | refine cdq ?_ (hc := hc) | refine cmq ?_ (hc := hc) | refine ctq ?_ (hc := hc)); (simp only [go_sem]))
            rw [List.append_nil] at hnx
            first
              | exact hG (k + 1, []) _ _ ⟨by omega, hnx.symm⟩ (by simp only []; omega) (hat [] (hI := ⟨rfl, rfl⟩))
              | exact hG (k + 1, a :: acc) _ _ ⟨by omega, hnx.symm⟩ (by simp only []; omega) (hat [0] (hI := ⟨rfl, rfl⟩))
          | cons b m =>
            rw [hkt] at hc hnx hkl
            simp only [List.length_cons] at hkl hal
            have hcap1 : (m.length + 1) * 128 ≤ 140737488355328 := by omega
            first
              | (have hcap2 : (acc.length + 1 + (m.length + 1)) * 128 ≤ 140737488355328 := by omega
                 repeat' (first | (first | (simp only [go_sem, hw1, hb, hcap1, hcap2]) | (((first | apply sp1 | apply sp2 | apply sp3 | apply sp4 | apply sp5 | apply sp6 | apply sp7) <;> intro hb) <;> (simp only [go_sem, hb, hw1, hb, hcap1, hcap2])) | ((first | apply wm_done | apply wt_done | apply wg_run | refine fk ?_ ?_) <;> (simp only [go_sem, hw1, hb, hcap1, hcap2]))) | (first | refine cdq ?_ (hc := hc) | refine cmq ?_ (hc := hc) | refine ctq ?_ (hc := hc)); (simp only [go_sem]))
                 refine hG (k + 1, a :: acc ++ b :: m) _ _ ⟨by omega, hnx.symm⟩ (by simp only []; omega) (hat [2] (hI := ⟨?_, ?_⟩))
                 · simp only [List.cons_append, List.length_append, List.length_cons]
                   rw [show acc.length + 1 + (m.length + 1) = acc.length + (m.length + 1) + 1 by omega]
                 · simp only [List.cons_append, teR, teR_append])
              | (repeat' (first | (first | (simp only [go_sem, hw1, hb, hcap1]) | (((first | apply sp1 | apply sp2 | apply sp3 | apply sp4 | apply sp5 | apply sp6 | apply sp7) <;> intro hb) <;> (simp only [go_sem, hb, hw1, hb, hcap1])) | ((first | apply wm_done | apply wt_done | apply wg_run | refine fk ?_ ?_) <;> (simp only [go_sem, hw1, hb, hcap1]))) | (first | refine cdq ?_ (hc := hc) | refine cmq ?_ (hc := hc) | refine ctq ?_ (hc := hc)); (simp only [go_sem]))
                 refine hG (k + 1, b :: m) _ _ ⟨by omega, hnx.symm⟩ (by simp only []; omega) (hat [1] (hI := ⟨rfl, rfl⟩)))
        · have hk1 : t.kids.take k = t.kids := List.take_of_length_le (by have := of_decide_eq_false hb; omega)
          rw [hk1, ← Tm.castsL_eq] at hacc
          (refine hR _ (rat [] (hK := ⟨?_, rfl⟩)))
          rw [← hacc]; rfl

end Go.Proofs.YtjmicohbnpbemaaGreat
/- Types: the relations of subtyping, on shadows (the program, SubPositive, SubNegative). -/
namespace Go.Proofs.YtjmicohbnpbemaaGreat
open Go.RowKit Go.Proofs.Sh Go.Proofs.Grad
set_option maxRecDepth 100000
set_option maxHeartbeats 4000000
theorem iPN (n : Nat) : (∀ a b : T, subM a b < n → AFn Tryz.prog 70 [.agg (tyC a.ty), .agg (tyC b.ty)] (.one (.sc (.bool (a.pos b))))) ∧
    (∀ a b : T, subM a b < n → AFn Tryz.prog 71 [.agg (tyC a.ty), .agg (tyC b.ty)] (.one (.sc (.bool (a.neg b))))) := by
  induction n with
  | zero => exact ⟨fun a b h => by omega, fun a b h => by omega⟩
  | succ n ih =>
    obtain ⟨ihp, ihn⟩ := ih
    have hp : ∀ a b : T, subM a b < n + 1 → ∀ x y : T, 2 * (x.size + y.size) + 5 < 2 * (a.size + b.size) → AFn Tryz.prog 70 [.agg (tyC x.ty), .agg (tyC y.ty)] (.one (.sc (.bool (x.pos y)))) := fun a b h x y hxy => ihp x y (by have := subM_le x y; have := le_subM a b; omega)
    have hn : ∀ a b : T, subM a b < n + 1 → ∀ x y : T, 2 * (x.size + y.size) + 5 < 2 * (a.size + b.size) → AFn Tryz.prog 71 [.agg (tyC x.ty), .agg (tyC y.ty)] (.one (.sc (.bool (x.neg y)))) := fun a b h x y hxy => ihn x y (by have := subM_le x y; have := le_subM a b; omega)
    constructor
    · intro a b h
      have hsub := iSub _ _ T.pos T.neg a b (hp a b h) (hn a b h)
      clear hp hn
      rcases a with _ | _ | _ | ⟨a1, a2⟩ | ⟨a1, a2⟩ <;> rcases b with _ | _ | _ | ⟨b1, b2⟩ | ⟨b1, b2⟩
      all_goals
        simp only [subM, T.size] at h
        refine fn_in ?_; refine acl_in Tryz.func70 rfl isfn_70 (Nat.le_of_ble_eq_true rfl) (fun R hR => ?_); rw [Tryz.results70] at hR; refine wg_run ?_; (simp only [Tryz.f70, go_sem])
        repeat' (first | (first | (((first | apply sp1 | apply sp2 | apply sp3 | apply sp4 | apply sp5 | apply sp6 | apply sp7) <;> intro hb) <;> (simp only [go_sem, hb])) | ((first | apply wm_done | apply wt_done | apply wg_run | refine fk ?_ ?_) <;> (simp only [go_sem]))) | (first | refine cdq ?_ (hc := hsub) | refine cmq ?_ (hc := hsub) | refine ctq ?_ (hc := hsub)); (simp only [go_sem]) | ((first | refine mxq6 [] ?_ | refine mxq5 [] ?_ | refine mxq4 [] ?_ | refine mxq3 [] ?_ | refine mxq2 [] ?_ | refine mxq1 [] ?_ | refine mxq0 [] ?_ | fail); (simp only [go_sem])))
      all_goals (refine hR _ (rat [] (hK := ⟨?_, rfl⟩)))
      all_goals clear hR ihp ihn hsub
      all_goals simp_all [T.pos, subF]
    · intro a b h
      have hsub := iSub _ _ T.neg T.pos a b (hn a b h) (hp a b h)
      clear hp hn
      rcases a with _ | _ | _ | ⟨a1, a2⟩ | ⟨a1, a2⟩ <;> rcases b with _ | _ | _ | ⟨b1, b2⟩ | ⟨b1, b2⟩
      all_goals
        simp only [subM, T.size] at h
        refine fn_in ?_; refine acl_in Tryz.func71 rfl isfn_71 (Nat.le_of_ble_eq_true rfl) (fun R hR => ?_); rw [Tryz.results71] at hR; refine wg_run ?_; (simp only [Tryz.f71, go_sem])
        repeat' (first | (first | (((first | apply sp1 | apply sp2 | apply sp3 | apply sp4 | apply sp5 | apply sp6 | apply sp7) <;> intro hb) <;> (simp only [go_sem, hb])) | ((first | apply wm_done | apply wt_done | apply wg_run | refine fk ?_ ?_) <;> (simp only [go_sem]))) | (first | refine cdq ?_ (hc := iGround T.any) | refine cmq ?_ (hc := iGround T.any) | refine ctq ?_ (hc := iGround T.any)); (simp only [go_sem]) | (first | refine cdq ?_ (hc := iGround T.int) | refine cmq ?_ (hc := iGround T.int) | refine ctq ?_ (hc := iGround T.int)); (simp only [go_sem]) | (first | refine cdq ?_ (hc := iGround T.bool) | refine cmq ?_ (hc := iGround T.bool) | refine ctq ?_ (hc := iGround T.bool)); (simp only [go_sem]) | (first | refine cdq ?_ (hc := iGround (T.fn a1 a2)) | refine cmq ?_ (hc := iGround (T.fn a1 a2)) | refine ctq ?_ (hc := iGround (T.fn a1 a2))); (simp only [go_sem]) | (first | refine cdq ?_ (hc := iGround (T.pr a1 a2)) | refine cmq ?_ (hc := iGround (T.pr a1 a2)) | refine ctq ?_ (hc := iGround (T.pr a1 a2))); (simp only [go_sem]) | (first | refine cdq ?_ (hc := ihn _ _ (by simp only [subM, T.size, T.ground]; (try split) <;> (try simp only [T.size]) <;> omega)) | refine cmq ?_ (hc := ihn _ _ (by simp only [subM, T.size, T.ground]; (try split) <;> (try simp only [T.size]) <;> omega)) | refine ctq ?_ (hc := ihn _ _ (by simp only [subM, T.size, T.ground]; (try split) <;> (try simp only [T.size]) <;> omega))); (simp only [go_sem]) | (first | refine cdq ?_ (hc := hsub) | refine cmq ?_ (hc := hsub) | refine ctq ?_ (hc := hsub)); (simp only [go_sem]) | ((first | refine mxq6 [] ?_ | refine mxq5 [] ?_ | refine mxq4 [] ?_ | refine mxq3 [] ?_ | refine mxq2 [] ?_ | refine mxq1 [] ?_ | refine mxq0 [] ?_ | fail); (simp only [go_sem])))
      all_goals (refine hR _ (rat [] (hK := ⟨?_, rfl⟩)))
      all_goals clear hR ihp ihn hsub
      all_goals simp_all [T.neg, T.ground, subF]
end Go.Proofs.YtjmicohbnpbemaaGreat
