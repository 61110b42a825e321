/- Texts of the proof, one behind another. -/
import Derived.Laws.BytesString
import Derived.Still
import Derived.Deep.Quiet
import Derived.WalkKit
import Derived.Test.YtnaebafafhamjaaGreatK2
set_option linter.unusedSimpArgs false
set_option linter.unusedVariables false
/- Taking back what a call has left. -/
namespace Go.Proofs.Sh
open Go.RowKit

mutual
def C.ren (f : Nat → Nat) : C → C
  | .ptr s b i j => .ptr s (f b) i j
  | .row s b n => .row s (f b) n
  | .fn g caps => .fn g (C.renL f caps)
  | .top => .top
  | .sc v => .sc v
  | .sl rows => .sl rows
  | .cur cs j => .cur cs j
def C.renL (f : Nat → Nat) : List C → List C
  | [] => []
  | c :: cs => C.ren f c :: C.renL f cs
end
def renA (f : Nat → Nat) (cs : List C) : List C := if treeL cs then cs else C.renL f cs
def renRows (f : Nat → Nat) (rows : List (List C)) : List (List C) := if treeRows rows then rows else rows.map (renA f)
mutual
def AV.ren (f : Nat → Nat) : AV → AV
  | .one c => .one (C.ren f c)
  | .agg cs => .agg (renA f cs)
  | .tup vs => .tup (AV.renL f vs)
def AV.renL (f : Nat → Nat) : List AV → List AV
  | [] => []
  | v :: vs => AV.ren f v :: AV.renL f vs
end
def Blk.ren (f : Nat → Nat) (k : Blk) : Blk := ⟨k.s, k.ty, k.st, renRows f k.rows⟩

mutual
theorem C.rep_ren {L L' μ μ' : List Nat} {w : World} {f : Nat → Nat} (hL : ∀ x, x ∈ L' → x ∈ L) (hf : ∀ (b g : Nat), μ[b]? = some g → μ'[f b]? = some g) : ∀ {c : C} {u : Value}, C.rep L μ w c u → C.rep L' μ' w (c.ren f) u
  | .ptr s b i j, u, h => by
    simp only [C.ren, C.rep] at h ⊢
    obtain ⟨g, h1, h2⟩ := h
    exact ⟨g, hf b g h1, h2⟩
  | .row s b n, u, h => by
    simp only [C.ren, C.rep] at h ⊢
    obtain ⟨g, cap, h1, h2⟩ := h
    exact ⟨g, cap, hf b g h1, h2⟩
  | .fn g caps, u, h => by
    simp only [C.ren, C.rep] at h ⊢
    obtain ⟨arr, h1, h2⟩ := h
    exact ⟨arr, h1, C.repl_ren hL hf h2⟩
  | .top, u, h => by simpa [C.ren, C.rep] using h
  | .sc v, u, h => by simpa [C.ren, C.rep] using h
  | .sl rows, u, h => by
    have := C.rep.sub hL h
    simp only [C.ren, C.rep] at this ⊢; exact this
  | .cur cs j, u, h => by
    have := C.rep.sub hL h
    simp only [C.ren, C.rep] at this ⊢; exact this
theorem C.repl_ren {L L' μ μ' : List Nat} {w : World} {f : Nat → Nat} (hL : ∀ x, x ∈ L' → x ∈ L) (hf : ∀ (b g : Nat), μ[b]? = some g → μ'[f b]? = some g) : ∀ {cs : List C} {us : List Value}, C.repl L μ w cs us → C.repl L' μ' w (C.renL f cs) us
  | [], us, h => by simpa [C.renL, C.repl] using h
  | c :: cs, us, h => by
    simp only [C.renL, C.repl] at h ⊢
    obtain ⟨u, us', h1, h2, h3⟩ := h
    exact ⟨u, us', h1, C.rep_ren hL hf h2, C.repl_ren hL hf h3⟩
end
theorem repl_renA {L L' μ μ' : List Nat} {w : World} {f : Nat → Nat} (hL : ∀ x, x ∈ L' → x ∈ L) (hf : ∀ (b g : Nat), μ[b]? = some g → μ'[f b]? = some g) {cs : List C} {us : List Value} (h : C.repl L μ w cs us) : C.repl L' μ' w (renA f cs) us := by
  unfold renA
  split
  · rename_i ht
    exact C.repl.carry (K := []) ⟨Keep.refl _ _, fun _ _ _ => by simp, fun x _ hx hm => hx (hL x hm), fun _ _ h => by simp at h⟩ (C.repl_tree ht h)
  · exact C.repl_ren hL hf h
mutual
theorem AV.rep_ren {L L' μ μ' : List Nat} {w : World} {f : Nat → Nat} (hL : ∀ x, x ∈ L' → x ∈ L) (hf : ∀ (b g : Nat), μ[b]? = some g → μ'[f b]? = some g) : ∀ {v : AV} {u : Value}, AV.rep L μ w v u → AV.rep L' μ' w (v.ren f) u
  | .one c, u, h => by simp only [AV.ren, AV.rep] at h ⊢; exact C.rep_ren hL hf h
  | .agg cs, u, h => by
    simp only [AV.ren, AV.rep] at h ⊢
    obtain ⟨arr, h1, h2⟩ := h
    exact ⟨arr, h1, repl_renA hL hf h2⟩
  | .tup vs, u, h => by
    simp only [AV.ren, AV.rep] at h ⊢
    obtain ⟨arr, h1, h2⟩ := h
    exact ⟨arr, h1, AV.repl_ren hL hf h2⟩
theorem AV.repl_ren {L L' μ μ' : List Nat} {w : World} {f : Nat → Nat} (hL : ∀ x, x ∈ L' → x ∈ L) (hf : ∀ (b g : Nat), μ[b]? = some g → μ'[f b]? = some g) : ∀ {vs : List AV} {us : List Value}, AV.repl L μ w vs us → AV.repl L' μ' w (AV.renL f vs) us
  | [], us, h => by simpa [AV.renL, AV.repl] using h
  | v :: vs, us, h => by
    simp only [AV.renL, AV.repl] at h ⊢
    obtain ⟨u, us', h1, h2, h3⟩ := h
    exact ⟨u, us', h1, AV.rep_ren hL hf h2, AV.repl_ren hL hf h3⟩
end
theorem C.renL_length (f : Nat → Nat) : ∀ cs : List C, (C.renL f cs).length = cs.length
  | [] => rfl
  | c :: cs => by simp [C.renL, C.renL_length f cs]
theorem C.renL_get (f : Nat → Nat) : ∀ (cs : List C) (j : Nat), (C.renL f cs)[j]? = (cs[j]?).map (C.ren f)
  | [], j => by simp [C.renL]
  | c :: cs, 0 => by simp [C.renL]
  | c :: cs, j + 1 => by simp [C.renL, C.renL_get f cs j]
theorem C.ren_tree {f : Nat → Nat} {c : C} (h : c.tree = true) : c.ren f = c := by
  cases c <;> first | rfl | (simp [C.tree] at h; done)

theorem Laid.ren {L L' μ μ' : List Nat} {w : World} {f : Nat → Nat} {cur : Array Value} {s : Nat} {rows : List (List C)} (hL : ∀ x, x ∈ L' → x ∈ L) (hf : ∀ (b g : Nat), μ[b]? = some g → μ'[f b]? = some g) (h : Laid L μ w cur s rows) : Laid L' μ' w cur s (renRows f rows) := by
  unfold renRows
  split
  · rename_i ht
    intro i r hr
    obtain ⟨h1, h2⟩ := h i r hr
    refine ⟨h1, fun j c hj => ?_⟩
    obtain ⟨u, hu, hv⟩ := h2 j c hj
    have t1 := List.all_eq_true.1 ht r (List.mem_of_getElem? hr)
    have t2 := List.all_eq_true.1 t1 c (List.mem_of_getElem? hj)
    exact ⟨u, hu, C.rep.carry Carry.any (C.rep.sub hL (C.rep_tree t2 hv))⟩
  · intro i r hr
    rw [List.getElem?_map, Option.map_eq_some_iff] at hr
    obtain ⟨r0, hr0, rfl⟩ := hr
    obtain ⟨h1, h2⟩ := h i r0 hr0
    unfold renA
    split
    · rename_i ht
      refine ⟨h1, fun j c hj => ?_⟩
      obtain ⟨u, hu, hv⟩ := h2 j c hj
      have t2 := List.all_eq_true.1 ht c (List.mem_of_getElem? hj)
      exact ⟨u, hu, C.rep.carry Carry.any (C.rep.sub hL (C.rep_tree t2 hv))⟩
    · refine ⟨by rw [C.renL_length, h1], fun j c hj => ?_⟩
      rw [C.renL_get, Option.map_eq_some_iff] at hj
      obtain ⟨c0, hc0, rfl⟩ := hj
      obtain ⟨u, hu, hv⟩ := h2 j c0 hc0
      exact ⟨u, hu, C.rep_ren hL hf hv⟩

def setAll : List Nat → List Blk → List Blk → List Blk
  | b :: ks, k :: K, h => setAll ks K (h.set b k)
  | _, _, h => h
theorem setAll_length : ∀ (ks : List Nat) (K h : List Blk), (setAll ks K h).length = h.length
  | [], _, h => rfl
  | b :: ks, [], h => rfl
  | b :: ks, k :: K, h => by simp [setAll, setAll_length ks K]
theorem setAll_get : ∀ {ks : List Nat} {K h : List Blk} {x : Nat} {k : Blk}, ks.Nodup → ks.length ≤ K.length → (setAll ks K h)[x]? = some k → (∃ i : Nat, ks[i]? = some x ∧ K[i]? = some k) ∨ (x ∉ ks ∧ h[x]? = some k)
  | [], K, h, x, k, _, _, e => .inr ⟨by simp, by simpa [setAll] using e⟩
  | b :: ks, [], h, x, k, _, hl, e => by simp at hl
  | b :: ks, k0 :: K, h, x, k, hn, hl, e => by
    obtain ⟨hb, hn⟩ := List.nodup_cons.1 hn
    simp only [setAll] at e
    rcases setAll_get hn (by simpa using hl) e with ⟨i, h1, h2⟩ | ⟨h1, h2⟩
    · exact .inl ⟨i + 1, by simpa using h1, by simpa using h2⟩
    · rw [List.getElem?_set] at h2
      split at h2
      · rename_i hbx
        split at h2
        · exact .inl ⟨0, by simpa using hbx, by simpa using h2⟩
        · cases h2
      · rename_i hbx
        exact .inr ⟨by simp only [List.mem_cons, not_or]; exact ⟨fun e => hbx e.symm, h1⟩, h2⟩

/-- the callee's numbers as the caller's -/
def back (n : Nat) (ks : List Nat) (b : Nat) : Nat := if b < ks.length then ks.getD b 0 else n + (b - ks.length)
/-- the caller's own blocks behind the call -/
def merge (h : List Blk) (ks : List Nat) (H : List Blk) : List Blk := setAll ks (H.map (Blk.ren (back h.length ks))) h ++ (H.drop ks.length).map (Blk.ren (back h.length ks))

section
variable {X μ : List Nat} {h h1 : List Blk} {w w2 : World} {ks : List Nat} {vs' : List AV} {us : List Value} {K : List Blk}

def outer (X μ : List Nat) (h1 : List Blk) (ks : List Nat) : List Nat := X ++ (alive μ h1).filter fun g => !(mapK μ ks).contains g

theorem take_back (hH : Handed X μ h w ks vs' us K h1) (hkn : K.all (fun k => k.st.known) = true) {μ2 : List Nat} {H2 : List Blk} {v : AV} {u : Value} (hS2 : Sim (outer X μ h1 ks) μ2 H2 w2) (hT : Stp (mapK μ ks) K w μ2 H2 w2) (hv : AV.rep (outer X μ h1 ks ++ alive μ2 H2) μ2 w2 v u) :
    ∃ μ3, Sim X μ3 (merge h1 ks H2) w2 ∧ Stp μ h1 w μ3 (merge h1 ks H2) w2 ∧ AV.rep (X ++ alive μ3 (merge h1 ks H2)) μ3 w2 (v.ren (back h1.length ks)) u ∧ Keep (mapK μ ks) w w2 := by
  have hblk : ∀ (i b : Nat), ks[i]? = some b → ∃ k k', h1[b]? = some k ∧ k.st.known = true ∧ K[i]? = some k' ∧ k'.st = k.st := fun i b hb => by
    obtain ⟨k, k', e1, e2, e3⟩ := hH.blk i b hb
    exact ⟨k, k', e1, by rw [← e3]; exact List.all_eq_true.1 hkn k' (List.mem_of_getElem? e2), e2, e3⟩
  have hS := hH.sim
  have hμl := hS.len
  have hm2 : ks.length ≤ μ2.length := by
    rcases Nat.lt_or_ge μ2.length ks.length with hlt | hge
    · have hl : μ2.length < (mapK μ ks).length := by simp only [mapK, List.length_map]; exact hlt
      have := hT.map _ _ (List.getElem?_eq_getElem hl)
      rw [List.getElem?_eq_none (Nat.le_refl _)] at this
      cases this
    · exact hge
  have hl2 := hS2.len
  have hf : ∀ (b g : Nat), μ2[b]? = some g → (μ ++ μ2.drop ks.length)[back h1.length ks b]? = some g := fun b g hb => by
    unfold back
    split
    · rename_i hlt
      have hkb : ks[b]? = some (ks.getD b 0) := by rw [List.getD_eq_getElem?_getD, List.getElem?_eq_getElem hlt]; rfl
      obtain ⟨k, k', e1, _, _, _⟩ := hblk b _ hkb
      obtain ⟨g', hg', _⟩ := hS.get e1
      have := hT.map b g' (mapK_get hkb hg')
      rw [hb] at this; cases this
      rw [List.getElem?_append_left (List.getElem?_eq_some_iff.1 hg').1]
      exact hg'
    · rename_i hge
      rw [List.getElem?_append_right (by omega), List.getElem?_drop, ← hb]
      congr 1; omega
  have hget : ∀ (x : Nat) (k : Blk), (merge h1 ks H2)[x]? = some k → (x ∉ ks ∧ x < h1.length ∧ h1[x]? = some k ∧ ∀ g, (μ ++ μ2.drop ks.length)[x]? = some g → μ[x]? = some g) ∨
      ∃ (i : Nat) (k0 : Blk), x = back h1.length ks i ∧ H2[i]? = some k0 ∧ k = k0.ren (back h1.length ks) ∧ ∀ g, (μ ++ μ2.drop ks.length)[x]? = some g → μ2[i]? = some g := fun x k hx => by
    unfold merge at hx
    have sl := setAll_length ks (H2.map (Blk.ren (back h1.length ks))) h1
    rcases Nat.lt_or_ge x h1.length with hlt | hge
    · rw [List.getElem?_append_left (by omega)] at hx
      rcases setAll_get hH.nodup (by simp; omega) hx with ⟨i, e1, e2⟩ | ⟨e1, e2⟩
      · right
        rw [List.getElem?_map, Option.map_eq_some_iff] at e2
        obtain ⟨k0, e2, rfl⟩ := e2
        have hi := (List.getElem?_eq_some_iff.1 e1).1
        have hb : back h1.length ks i = x := by
          unfold back; rw [if_pos hi, List.getD_eq_getElem?_getD, e1]; rfl
        refine ⟨i, k0, hb.symm, e2, rfl, fun g hg => ?_⟩
        have hi2 : i < μ2.length := by have := (List.getElem?_eq_some_iff.1 e2).1; omega
        have := hf i _ (List.getElem?_eq_getElem hi2)
        rw [hb, hg] at this
        rw [List.getElem?_eq_getElem hi2, this]
      · exact .inl ⟨e1, hlt, e2, fun g hg => by rwa [List.getElem?_append_left (by omega)] at hg⟩
    · right
      rw [List.getElem?_append_right (by omega), List.getElem?_map, Option.map_eq_some_iff, sl] at hx
      obtain ⟨k0, e1, rfl⟩ := hx
      rw [List.getElem?_drop] at e1
      refine ⟨_, k0, ?_, e1, rfl, fun g hg => ?_⟩
      · unfold back; rw [if_neg (by omega)]; omega
      · rw [List.getElem?_append_right (by omega), List.getElem?_drop, hμl] at hg
        exact hg
  have halk : ∀ x, x ∈ alive (mapK μ ks) K → ∃ b k, b ∈ ks ∧ h1[b]? = some k ∧ k.st.isMut = true ∧ k.st.known = true ∧ μ[b]? = some x := fun x hx => by
    obtain ⟨i, q, e1, e2, e3⟩ := mem_alive.1 hx
    have hi : i < ks.length := by have := (List.getElem?_eq_some_iff.1 e1).1; simpa [mapK] using this
    obtain ⟨k, k', f1, f2, f3, f4⟩ := hblk i _ (List.getElem?_eq_getElem hi)
    rw [f3] at e2; cases e2
    obtain ⟨g', hg', _⟩ := hS.get f1
    have := mapK_get (List.getElem?_eq_getElem hi) hg'
    rw [e1] at this; cases this
    exact ⟨_, k, List.getElem_mem hi, f1, by rw [← f4]; exact e3, f2, hg'⟩
  have hal1 : ∀ x, x ∈ alive (mapK μ ks) K → x ∈ alive μ h1 := fun x hx => by
    obtain ⟨b, k, _, h2, h3, _, h5⟩ := halk x hx
    exact mem_alive.2 ⟨b, k, h5, h2, h3⟩
  have hmk : ∀ x, x ∈ mapK μ ks → ∃ b k, b ∈ ks ∧ h1[b]? = some k ∧ k.st.known = true ∧ μ[b]? = some x := fun x hx => by
    obtain ⟨i, hi⟩ := List.getElem?_of_mem hx
    have hil : i < ks.length := by have := (List.getElem?_eq_some_iff.1 hi).1; simpa [mapK] using this
    obtain ⟨k, k', f1, f2, _, _⟩ := hblk i _ (List.getElem?_eq_getElem hil)
    obtain ⟨g', hg', _⟩ := hS.get f1
    have := mapK_get (List.getElem?_eq_getElem hil) hg'
    rw [hi] at this; cases this
    exact ⟨_, k, List.getElem_mem hil, f1, f2, hg'⟩
  have hold : ∀ (x : Nat) (k : Blk) (g : Nat), x ∉ ks → h1[x]? = some k → k.st.isMut = true → μ[x]? = some g → g ∈ outer X μ h1 ks := fun x k g hx hk hm hg => by
    refine List.mem_append.2 (.inr (List.mem_filter.2 ⟨mem_alive.2 ⟨x, k, hg, hk, hm⟩, ?_⟩))
    simp only [Bool.not_eq_true', List.contains_eq_mem, decide_eq_false_iff_not]
    intro hmem
    obtain ⟨b, k2, e1, e2, e3, e4⟩ := hmk g hmem
    exact hS.inj x b k k2 g (fun e => hx (e ▸ e1)) hk e2 hm e3 hg e4
  have hmem3 : ∀ x, x ∈ alive (μ ++ μ2.drop ks.length) (merge h1 ks H2) → x ∈ outer X μ h1 ks ∧ x ∈ alive μ h1 ∨ x ∈ alive μ2 H2 := fun x hx => by
    obtain ⟨i, k, e1, e2, e3⟩ := mem_alive.1 hx
    rcases hget i k e2 with ⟨f1, _, f2, f3⟩ | ⟨j, k0, _, f2, rfl, f4⟩
    · exact .inl ⟨hold i k x f1 f2 e3 (f3 x e1), mem_alive.2 ⟨i, k, f3 x e1, f2, e3⟩⟩
    · exact .inr (mem_alive.2 ⟨j, k0, f4 x e1, f2, e3⟩)
  have hL3 : ∀ x, x ∈ X ++ alive (μ ++ μ2.drop ks.length) (merge h1 ks H2) → x ∈ outer X μ h1 ks ++ alive μ2 H2 := fun x hx => by
    rcases List.mem_append.1 hx with hx | hx
    · exact List.mem_append.2 (.inl (List.mem_append.2 (.inl hx)))
    · rcases hmem3 x hx with ⟨h, _⟩ | h
      · exact List.mem_append.2 (.inl h)
      · exact List.mem_append.2 (.inr h)
  have hT3 : Stp μ h1 w (μ ++ μ2.drop ks.length) (merge h1 ks H2) w2 := by
    refine ⟨hT.keep.mono hal1, fun b g hb => by rw [List.getElem?_append_left (List.getElem?_eq_some_iff.1 hb).1]; exact hb, fun x hx hlt => ?_⟩
    rcases hmem3 x hx with ⟨_, h⟩ | h
    · exact h
    · exact hal1 x (hT.old x h hlt)
  refine ⟨μ ++ μ2.drop ks.length, ⟨?_, ?_, fun g hg => Nat.lt_of_lt_of_le (hS.xlt g hg) hT.keep.size, ?_, ?_, ?_⟩, hT3, AV.rep_ren hL3 hf hv, hT.keep.mono fun x hx => by
    obtain ⟨i, q, e1, _, _⟩ := mem_alive.1 hx
    exact List.mem_of_getElem? e1⟩
  · unfold merge
    simp only [List.length_append, List.length_drop, List.length_map, setAll_length]
    omega
  · intro g hg
    rcases List.mem_append.1 hg with hg | hg
    · exact Nat.lt_of_lt_of_le (hS.lt g hg) hT.keep.size
    · exact hS2.lt g (List.mem_of_mem_drop hg)
  · intro i k g hi hk hg
    rcases hget i k hi with ⟨f1, _, f2, f3⟩ | ⟨j, k0, _, f2, rfl, f4⟩
    · exact hS.out i k g f2 hk (f3 g hg)
    · exact fun hx => hS2.out j k0 g f2 hk (f4 g hg) (List.mem_append.2 (.inl hx))
  · intro i j k k' g hij hi hj hm hk hgi hgj
    rcases hget i k hi with ⟨f1, _, f2, f3⟩ | ⟨i', k0, e1, f2, rfl, f4⟩ <;> rcases hget j k' hj with ⟨q1, _, q2, q3⟩ | ⟨j', k1, e2, q2, rfl, q4⟩
    · exact hS.inj i j k k' g hij f2 q2 hm hk (f3 g hgi) (q3 g hgj)
    · exact hS2.out j' k1 g q2 hk (q4 g hgj) (hold i k g f1 f2 hm (f3 g hgi))
    · have hga : g ∈ alive μ2 H2 := mem_alive.2 ⟨i', k0, f4 g hgi, f2, hm⟩
      obtain ⟨b, kb, c1, c2, c3, c4, c5⟩ := halk g (hT.old g hga (hS.lt g (List.mem_of_getElem? (q3 g hgj))))
      exact hS.inj b j kb k' g (fun e => q1 (e ▸ c1)) c2 q2 c3 hk c5 (q3 g hgj)
    · exact hS2.inj i' j' k0 k1 g (fun e => hij (by rw [e1, e2, e])) f2 q2 hm hk (f4 g hgi) (q4 g hgj)
  · intro i k g hi hk hg
    rcases hget i k hi with ⟨f1, _, f2, f3⟩ | ⟨j, k0, _, f2, rfl, f4⟩
    · obtain ⟨cur, hc, hl⟩ := hS.blk i k g f2 hk (f3 g hg)
      refine ⟨cur, ?_, hl.carry hT3.carry⟩
      rw [hT.keep.block g (fun hx => ?_) (hS.lt g (List.mem_of_getElem? (f3 g hg)))]
      · exact hc
      · obtain ⟨b, kb, c1, c2, c3, c4, c5⟩ := halk g hx
        exact hS.inj b i kb k g (fun e => f1 (e ▸ c1)) c2 f2 c3 hk c5 (f3 g hg)
    · obtain ⟨cur, hc, hl⟩ := hS2.blk j k0 g f2 hk (f4 g hg)
      exact ⟨cur, hc, hl.ren hL3 hf⟩
end
end Go.Proofs.Sh
/- A run on shadows is sound. -/
namespace Go.Proofs.Sh
open Go.RowKit

section
variable {P : Program} {X μ : List Nat} {s : ASt} {a : Act} {w : World} {o : Oper} {v : AV} {h' : List Blk}

theorem ares_val {x : Option AV} {h : List Blk} (e : ares x h = .val v h') : x = some v ∧ h' = h := by
  unfold ares at e; split at e
  · injection e with e1 e2; exact ⟨by rw [e1], e2.symm⟩
  · cases e
theorem ares1_val {x : Operand} {g : AV → Option AV} (e : ares1 s x g = .val v h') : ∃ u, s.eval x = some u ∧ g u = some v ∧ h' = s.h := by
  unfold ares1 at e; split at e
  · rename_i u hu; obtain ⟨e1, e2⟩ := ares_val e; exact ⟨u, hu, e1, e2⟩
  · cases e
theorem ares2_val {x y : Operand} {g : AV → AV → Option AV} (e : ares2 s x y g = .val v h') : ∃ u1 u2, s.eval x = some u1 ∧ s.eval y = some u2 ∧ g u1 u2 = some v ∧ h' = s.h := by
  unfold ares2 at e; split at e
  · rename_i u1 u2 h1 h2; obtain ⟨e1, e2⟩ := ares_val e; exact ⟨u1, u2, h1, h2, e1, e2⟩
  · cases e
theorem ared_val {x : Option (List Blk)} : ared x ≠ .val v h' := by unfold ared; split <;> simp

theorem call_ne_val {c : Call} : acall s c ≠ .val v h' := by
  unfold acall; split
  · split <;> simp
  · simp

theorem aop_val (hF : SimF X μ s a w) (e : aop P s o = .val v h') : OpOK P X μ s a w o v h' := by
  unfold aop at e
  split at e
  · rename_i x ho; obtain ⟨e1, rfl⟩ := ares_val e; exact OpOK.of_pure hF (pure_move ho hF e1)
  · rename_i x ho; obtain ⟨e1, rfl⟩ := ares_val e; exact OpOK.of_pure hF (pure_assign ho hF e1)
  · rename_i c x y ho
    split at e
    · rename_i b v1 v2 h1 h2 h3
      injection e with e1 e2; subst e1 e2
      exact OpOK.of_pure hF (pure_pick ho hF h1 h2 h3)
    · cases e
  · rename_i t ho
    split at e
    · rename_i ti hti
      split at e
      · injection e with e1 e2; subst e1 e2; exact (op_alloc ho hF hti).ok
      · cases e
    · cases e
  · rename_i t x ho
    split at e
    · rename_i cs hx
      injection e with e1 e2; subst e1 e2; exact (op_box ho hF hx).ok
    · cases e
  · rename_i t parts ho; obtain ⟨e1, rfl⟩ := ares_val e; exact OpOK.of_pure hF (op_build ho hF e1)
  · rename_i t len parts ho; exact (op_buildSlice ho hF e).ok
  · rename_i t x ho
    split at e
    · rename_i p hp
      obtain ⟨e1, rfl⟩ := ares_val e
      obtain ⟨g, u, _, _, h3, h4⟩ := op_load ho hF hp e1
      exact ⟨u, w, μ, h3 w rfl, hF.sim, Stp.refl _ _ _, h4⟩
    · cases e
  · rename_i t x y ho
    split at e
    · exact absurd e ared_val
    · cases e
  · rename_i x ho
    split at e
    · rename_i hx; injection e with e1 e2; subst e1 e2; exact OpOK.of_pure hF (pure_nilCheck ho hF hx rfl)
    · rename_i hx; injection e with e1 e2; subst e1 e2; exact OpOK.of_pure hF (pure_nilCheck ho hF hx rfl)
    · rename_i hx; injection e with e1 e2; subst e1 e2; exact OpOK.of_pure hF (pure_nilCheck ho hF hx rfl)
    · cases e
  · rename_i op t x y t' ho
    obtain ⟨u1, u2, h1, h2, h3, rfl⟩ := ares2_val e
    exact OpOK.of_pure hF (pure_bin ho hF h1 h2 h3)
  · rename_i op t x ho
    obtain ⟨u1, h1, h3, rfl⟩ := ares1_val e
    exact OpOK.of_pure hF (pure_un ho hF h1 h3)
  · rename_i t t' x ho
    split at e
    · rename_i k' n k hx ht'
      split at e
      · rename_i ht; injection e with e1 e2; subst e1 e2; exact OpOK.of_pure hF (pure_conv ho hF hx ht ht')
      · cases e
    · cases e
  · rename_i f first cs ho
    split at e
    · rename_i hf
      split at e
      · rename_i cc hcc; injection e with e1 e2; subst e1 e2; exact OpOK.of_pure hF (pure_makeFunc ho hF hf hcc)
      · cases e
    · cases e
  · rename_i t l c ho
    split at e
    · rename_i h1 h2; exact (op_makeSlice ho hF h1 h2 e).ok
    · cases e
  · rename_i t x lo hi ho
    obtain ⟨u1, h1, h3, rfl⟩ := ares1_val e
    exact OpOK.of_pure hF (pure_slice ho hF h1 h3)
  · rename_i t x f ho
    obtain ⟨u1, h1, h3, rfl⟩ := ares1_val e
    exact OpOK.of_pure hF (pure_fieldAddr ho hF h1 h3)
  · rename_i t x f ho
    obtain ⟨u1, h1, h3, rfl⟩ := ares1_val e
    exact OpOK.of_pure hF (pure_field ho hF h1 h3)
  · rename_i t x i ho
    obtain ⟨u1, u2, h1, h2, h3, rfl⟩ := ares2_val e
    exact OpOK.of_pure hF (pure_indexAddr ho hF h1 h2 h3)
  · rename_i x k ho
    split at e
    · rename_i vs hx; obtain ⟨e1, rfl⟩ := ares_val e; exact OpOK.of_pure hF (pure_extract ho hF hx e1)
    · cases e
  · rename_i t x i ho
    obtain ⟨u1, u2, h1, h2, h3, rfl⟩ := ares2_val e
    exact OpOK.of_pure hF (pure_index ho hF h1 h2 h3)
  · rename_i b args ts ho
    unfold abuiltin at e
    split at e
    · rename_i x t ha ht
      obtain ⟨u1, h1, h3, rfl⟩ := ares1_val e
      have ha' : args = #[x] := by rw [← Array.toArray_toList (xs := args), ha]
      have ht' : ts = #[t] := by rw [← Array.toArray_toList (xs := ts), ht]
      subst ha' ht'
      exact OpOK.of_pure hF (pure_len ho hF h1 h3)
    · rename_i x y t t' ha ht
      obtain ⟨u1, u2, h1, h2, h3, rfl⟩ := ares2_val e
      have ha' : args = #[x, y] := by rw [← Array.toArray_toList (xs := args), ha]
      subst ha'
      exact OpOK.of_pure hF (pure_max ho hF h1 h2 h3)
    · rename_i x y t t' ha ht
      have ha' : args = #[x, y] := by rw [← Array.toArray_toList (xs := args), ha]
      have ht' : ts = #[t, t'] := by rw [← Array.toArray_toList (xs := ts), ht]
      subst ha' ht'
      split at e
      · rename_i h1 h2
        split at e
        · rename_i htt; subst htt; exact (op_append ho hF h1 h2 e).ok
        · cases e
      · cases e
    · cases e
  · exact absurd e call_ne_val
  · cases e

theorem aop_skip' (hF : SimF X μ s a w) (e : aop P s o = .skip h') : ∃ w', (execOp a.eval o).run P w = .ok .skip w' ∧ (Sim X μ h' w' ∧ Stp μ s.h w μ h' w') ∧ ∀ t x y n b i j g, o.op = .store t x y → s.eval x = some (.one (.ptr n b i j)) → μ[b]? = some g → Keep [g] w w' := by
  have na : ∀ (x : Option AV) (h : List Blk), ares x h ≠ .skip h' := fun x h => by unfold ares; split <;> simp
  have n1 : ∀ (x : Operand) (g : AV → Option AV), ares1 s x g ≠ .skip h' := fun x g => by unfold ares1; split; exact na _ _; simp
  have n2 : ∀ (x y : Operand) (g : AV → AV → Option AV), ares2 s x y g ≠ .skip h' := fun x y g => by unfold ares2; split; exact na _ _; simp
  have n3 : ∀ t l p, abuildSlice P s.h t l p ≠ .skip h' := fun t l p => by unfold abuildSlice; (repeat' split) <;> simp
  have n4 : ∀ t x y, amakeSlice P s.h t x y ≠ .skip h' := fun t x y => by unfold amakeSlice; (repeat' split) <;> simp
  have n5 : ∀ t x y, aappend P s.h t x y ≠ .skip h' := fun t x y => by unfold aappend asame aappend1; (repeat' split) <;> simp
  have n6 : ∀ c, acall s c ≠ .skip h' := fun c => by unfold acall; (repeat' split) <;> simp
  unfold aop at e
  split at e
  case h_9 t x y ho =>
    split at e
    · rename_i p v hp hv
      unfold ared at e
      split at e
      · rename_i h2 hst
        injection e with e; subst e
        obtain ⟨w', q1, q2, q3⟩ := op_store ho hF hp hv hst
        refine ⟨w', q1, q2, fun t' x' y' n b i j g e1 e2 e3 => ?_⟩
        rw [ho] at e1; cases e1
        rw [hp] at e2; cases e2
        exact q3 n b i j g rfl e3
      · cases e
    · cases e
  all_goals exfalso
  all_goals first
    | exact na _ _ e
    | exact n1 _ _ e
    | exact n2 _ _ _ e
    | exact n3 _ _ _ e
    | exact n6 _ e
    | (cases e; done)
    | (split at e <;> first | (cases e; done) | exact na _ _ e | exact n4 _ _ _ e | (split at e <;> first | (cases e; done) | exact na _ _ e))
    | (unfold abuiltin at e; split at e <;> first | (cases e; done) | exact n1 _ _ e | exact n2 _ _ _ e | (split at e <;> first | (cases e; done) | (split at e <;> first | (cases e; done) | exact n5 _ _ _ e)))

theorem aop_skip (hF : SimF X μ s a w) (e : aop P s o = .skip h') : ∃ w', (execOp a.eval o).run P w = .ok .skip w' ∧ Sim X μ h' w' ∧ Stp μ s.h w μ h' w' := by
  obtain ⟨w', q1, q2, _⟩ := aop_skip' hF e
  exact ⟨w', q1, q2.1, q2.2⟩

theorem vals_rep {L : List Nat} : ∀ {os : List Operand} {vs : List AV}, (∀ o v, s.eval o = some v → AV.rep L μ w v (a.eval o)) → vals (os.map s.eval) = some vs → AV.repl L μ w vs (os.map a.eval)
  | [], cs, _, h => by simp only [List.map_nil, vals, Option.some.injEq] at h; subst h; simp [AV.repl]
  | o :: os, cs, he, h => by
    cases hq : s.eval o with
    | none => simp [vals, hq] at h
    | some v =>
      simp only [List.map_cons, hq, vals, Option.map_eq_some_iff] at h
      obtain ⟨cs', h2, rfl⟩ := h
      simp only [List.map_cons, AV.repl]
      exact ⟨_, _, rfl, he o _ hq, vals_rep he h2⟩
theorem AV.repl_append {L : List Nat} {vs vs2 : List AV} {us us2 : List Value} (h : AV.repl L μ w vs us) (k : AV.repl L μ w vs2 us2) : AV.repl L μ w (vs ++ vs2) (us ++ us2) := by
  induction vs generalizing us with
  | nil => simp only [AV.repl] at h; subst h; simpa using k
  | cons v vs ih =>
    simp only [AV.repl] at h
    obtain ⟨u, us', rfl, h2, h3⟩ := h
    simp only [List.cons_append, AV.repl]
    exact ⟨u, us' ++ us2, rfl, h2, ih h3⟩
theorem AV.repl_one {L : List Nat} : ∀ {cs : List C} {us : List Value}, C.repl L μ w cs us → AV.repl L μ w (cs.map .one) us
  | [], us, h => by simpa [C.repl, AV.repl] using h
  | c :: cs, us, h => by
    simp only [C.repl] at h
    obtain ⟨u, us', rfl, h2, h3⟩ := h
    simp only [List.map_cons, AV.repl, AV.rep]
    exact ⟨u, us', rfl, h2, AV.repl_one h3⟩

def IsFn (P : Program) (f : FuncId) : Prop := ∀ (args : Array Value) (w : World), (callFunc f args).run P w = .ok (.enter f args) w

theorem aop_call {f : FuncId} {args : List AV} (hF : SimF X μ s a w) (e : aop P s o = .call f args) : ∃ vs : Array Value, AV.repl (X ++ alive μ s.h) μ w args vs.toList ∧ (IsFn P f → (execOp a.eval o).run P w = .ok (.enter f vs) w) := by
  have na : ∀ (x : Option AV) (h : List Blk), ares x h ≠ .call f args := fun x h => by unfold ares; split <;> simp
  have n1 : ∀ (x : Operand) (g : AV → Option AV), ares1 s x g ≠ .call f args := fun x g => by unfold ares1; split; exact na _ _; simp
  have n2 : ∀ (x y : Operand) (g : AV → AV → Option AV), ares2 s x y g ≠ .call f args := fun x y g => by unfold ares2; split; exact na _ _; simp
  have n3 : ∀ t l p, abuildSlice P s.h t l p ≠ .call f args := fun t l p => by unfold abuildSlice; (repeat' split) <;> simp
  have n4 : ∀ t x y, amakeSlice P s.h t x y ≠ .call f args := fun t x y => by unfold amakeSlice; (repeat' split) <;> simp
  have n5 : ∀ t x y, aappend P s.h t x y ≠ .call f args := fun t x y => by unfold aappend asame aappend1; (repeat' split) <;> simp
  unfold aop at e
  split at e
  case h_23 c hb ho =>
    unfold acall at e
    split at e
    · rename_i x hc
      split at e
      · rename_i g cs vs hx hv
        injection e with e1 e2
        subst e1 e2
        have h1 := hF.eval hx
        simp only [AV.rep, C.rep] at h1
        obtain ⟨arr, he, hr⟩ := h1
        refine ⟨(c.args.map a.eval) ++ arr, ?_, fun hfn => ?_⟩
        · rw [Array.toList_append, Array.toList_map]
          exact AV.repl_append (vals_rep (fun o v hv => hF.eval hv) hv) (AV.repl_one hr)
        · simp only [execOp, ho, resolve, hc, he, Deferred.ofValue, Sem.run_bind, Sem.run_pure, Result.andThen_ok, invoke]
          simpa using hfn (c.args.map a.eval ++ arr) w
      · cases e
    · cases e
  all_goals exfalso
  all_goals first
    | exact na _ _ e
    | exact n1 _ _ e
    | exact n2 _ _ _ e
    | exact n3 _ _ _ e
    | (cases e; done)
    | (split at e <;> first | (cases e; done) | exact na _ _ e | exact n4 _ _ _ e | (split at e <;> first | (cases e; done) | exact na _ _ e))
    | (split at e <;> first | (cases e; done) | (unfold ared at e; split at e <;> cases e))
    | (unfold abuiltin at e; split at e <;> first | (cases e; done) | exact n1 _ _ e | exact n2 _ _ _ e | (split at e <;> first | (cases e; done) | (split at e <;> first | (cases e; done) | exact n5 _ _ _ e)))
theorem abytes_spec {L : List Nat} : ∀ {rows : List (List C)} {ns : List Int} {us : List Value}, abytes rows = some ns → C.repl L μ w rows.flatten us → us = ns.map (Value.int .u8) ∧ rows.length = ns.length
  | [], ns, us, h, hr => by
    simp only [abytes, Option.some.injEq] at h
    subst h
    simpa [C.repl] using hr
  | [] :: l, ns, us, h, hr => by simp [abytes] at h
  | (c :: d :: r) :: l, ns, us, h, hr => by cases c <;> simp [abytes] at h
  | [c] :: l, ns, us, h, hr => by
    unfold abytes at h
    split at h
    · simp at *
    · rename_i n l' hc
      simp only [List.cons.injEq, and_true] at hc
      obtain ⟨rfl, rfl⟩ := hc
      split at h
      · rename_i ns' h'
        cases h
        simp only [List.flatten_cons, List.cons_append, List.nil_append, C.repl] at hr
        obtain ⟨u, us', rfl, h2, h3⟩ := hr
        simp only [C.rep] at h2
        obtain ⟨e1, e2⟩ := abytes_spec h' h3
        exact ⟨by rw [e1, h2.1]; rfl, by simp [e2]⟩
      · cases h
    · cases h
theorem op_convB (hF : SimF X μ s a w) (e : aconvB P s o = .val v h') : OpOK P X μ s a w o v h' := by
  unfold aconvB at e
  split at e
  case h_2 => cases e
  rename_i t b x ho
  split at e
  case h_2 => cases e
  rename_i vx hx
  split at e
  case h_2 => cases e
  rename_i r rs ti hrows hti
  obtain ⟨i, d, z, hi, hd, hz, hzc, hzs, rfl⟩ := tinfo_spec hti
  split at e
  case isFalse => cases e
  rename_i hk
  obtain ⟨hk1, hk2, hk3⟩ := hk
  obtain ⟨el, rfl⟩ := tkind_slice (tkindP_eq hk1 (by decide))
  simp only [telem] at hk3
  obtain ⟨db, hdb, hkb⟩ := tk_some hk2 (by decide)
  have := tkind_string hkb
  subst this
  split at e
  case h_2 => cases e
  rename_i ns hns
  injection e with e1 e2
  subst e1 e2
  obtain ⟨ad, c, news, he2, hnr, hnc⟩ := arows_spec hF.sim hrows (hF.eval hx)
  obtain ⟨e1, e2⟩ := abytes_spec hns hnr
  refine ⟨.string (bytesOf ns), w, μ, ?_, hF.sim, Stp.refl _ _ _, AV.rep_sc rfl⟩
  have hl := run_loadCells_list (P := P) (w := w) ad news hnc
  have hlen : rs.length + 1 = news.length := by rw [e1, List.length_map, ← e2]; rfl
  simp only [execOp, ho, Sem.run_bind]
  rw [he2, run_convert_bytes_string w t b el (some ad) _ c hd (tint_some hk3) hdb, hlen, run_bytesToString w ad _ c ns (by rw [hl, e1])]
  rfl
theorem aopX_val (hF : SimF X μ s a w) (e : aopX P s o = .val v h') : OpOK P X μ s a w o v h' := by
  unfold aopX aor at e
  split at e
  · exact op_convB hF e
  · exact aop_val hF e
theorem aconvB_skip : aconvB P s o ≠ .skip h' := by unfold aconvB; (repeat' split) <;> simp
theorem aconvB_call {f : FuncId} {args : List AV} : aconvB P s o ≠ .call f args := by unfold aconvB; (repeat' split) <;> simp
theorem aopX_skip (e : aopX P s o = .skip h') : aop P s o = .skip h' := by
  unfold aopX aor at e
  split at e
  · exact absurd e aconvB_skip
  · exact e
theorem aopX_call {f : FuncId} {args : List AV} (e : aopX P s o = .call f args) : aop P s o = .call f args := by
  unfold aopX aor at e
  split at e
  · exact absurd e aconvB_call
  · exact e
end
end Go.Proofs.Sh
/- The run on shadows: what it shows of the code. -/
namespace Go.Proofs.Sh
open Go.RowKit

/-- the change from one state to a later one, of which the first N own blocks keep their numbers -/
structure StpN (N : Nat) (μ : List Nat) (H : List Blk) (w : World) (μ' : List Nat) (H' : List Blk) (w' : World) : Prop where
  keep : Keep (alive μ H) w w'
  map : ∀ (b g : Nat), b < N → μ[b]? = some g → μ'[b]? = some g
  old : ∀ g ∈ alive μ' H', g < w.heap.size → g ∈ alive μ H
theorem StpN.refl (N : Nat) (μ : List Nat) (H : List Blk) (w : World) : StpN N μ H w μ H w := ⟨Keep.refl _ _, fun _ _ _ h => h, fun _ h _ => h⟩
theorem StpN.trans {N : Nat} {μ μ1 μ2 : List Nat} {H H1 H2 : List Blk} {w w1 w2 : World} (h : StpN N μ H w μ1 H1 w1) (k : Stp μ1 H1 w1 μ2 H2 w2) : StpN N μ H w μ2 H2 w2 :=
  ⟨h.keep.trans k.keep (fun x hx hl => h.old x hx hl), fun b g hb e => k.map b g (h.map b g hb e), fun g hg hl => h.old g (k.old g hg (Nat.lt_of_lt_of_le hl h.keep.size)) hl⟩

/-- the code ends as K says, in shadows -/
def lift (N : Nat) (X μ : List Nat) (h : List Blk) (w : World) (K : Exit → ASt → Prop) : Exit → Act → World → Prop :=
  fun e a' w' => ∃ s' μ', K e s' ∧ SimF X μ' s' a' w' ∧ StpN N μ h w μ' s'.h w'
def ACode (P : Program) (N : Nat) (c : Code) (s : ASt) (K : Exit → ASt → Prop) : Prop := ∀ X μ0 h0 w0 μ a w, SimF X μ s a w → StpN N μ0 h0 w0 μ s.h w → c.wp P (lift N X μ0 h0 w0 K) a w
def AOps (P : Program) (N : Nat) (all l : List Oper) (s : ASt) (K : Exit → ASt → Prop) : Prop := ∀ X μ0 h0 w0 μ a w, SimF X μ s a w → StpN N μ0 h0 w0 μ s.h w → wpList P all.toArray (lift N X μ0 h0 w0 K) l a w

def AGo (P : Program) (N : Nat) (R : ASt → Prop) : List Item → Exit → ASt → Prop
  | [], e, s => match e with | .normal => R s | .ret => R s | _ => False
  | .goal I :: k, e, s => match e with | .normal => I s | e => AGo P N R k e s
  | .blk id :: k, e, s => match e with | .normal => AGo P N R k .normal s | .exit id' => if id' = id then AGo P N R k .normal s else AGo P N R k (.exit id') s | e => AGo P N R k e s
  | .code c :: k, e, s => match e with | .normal => ACode P N c s (AGo P N R k) | e => AGo P N R k e s
  | .ops l all :: k, e, s => match e with | .normal => AOps P N all l s (AGo P N R k) | e => AGo P N R k e s

def ACall (P : Program) (f : FuncId) (args : List AV) (H : List Blk) (K : AV → List Blk → Prop) : Prop :=
  IsFn P f ∧ ∀ X μ w (vs : Array Value), Sim X μ H w → AV.repl (X ++ alive μ H) μ w args vs.toList →
    Calls P f vs w (fun e w' => ∃ r H' μ' v, e = .returned v ∧ K r H' ∧ Sim X μ' H' w' ∧ Stp μ H w μ' H' w' ∧ AV.rep (X ++ alive μ' H') μ' w' r v)

theorem ACall.mono {P : Program} {f : FuncId} {args : List AV} {H : List Blk} {K K' : AV → List Blk → Prop} (h : ACall P f args H K) (hk : ∀ r H', K r H' → K' r H') : ACall P f args H K' :=
  ⟨h.1, fun X μ w vs hS hr => (h.2 X μ w vs hS hr).mono fun e w' ⟨r, H', μ', v, h1, h2, h3⟩ => ⟨r, H', μ', v, h1, hk r H' h2, h3⟩⟩

/-- what is asked at a call, of the caller's state; ks: the own blocks that the call may change -/
def ACalls (P : Program) (f : FuncId) (args : List AV) (h : List Blk) (ks : List Nat) (K : AV → List Blk → Prop) : Prop :=
  IsFn P f ∧ ∀ X μ w (vs : Array Value), Sim X μ h w → AV.repl (X ++ alive μ h) μ w args vs.toList →
    Calls P f vs w (fun e w' => ∃ r h' μ' v, e = .returned v ∧ K r h' ∧ Sim X μ' h' w' ∧ Stp μ h w μ' h' w' ∧ AV.rep (X ++ alive μ' h') μ' w' r v ∧ Keep (mapK μ ks) w w')
theorem ACalls.mono {P : Program} {f : FuncId} {args : List AV} {h : List Blk} {ks : List Nat} {K K' : AV → List Blk → Prop} (hc : ACalls P f args h ks K) (hk : ∀ r H', K r H' → K' r H') : ACalls P f args h ks K' :=
  ⟨hc.1, fun X μ w vs hS hr => (hc.2 X μ w vs hS hr).mono fun e w' ⟨r, H', μ', v, h1, h2, h3⟩ => ⟨r, H', μ', v, h1, hk r H' h2, h3⟩⟩

def ADis (P : Program) (N : Nat) (R : ASt → Prop) : Out → Prop
  | .ret s => R s
  | .call f args h dst k s => ∃ ks, ACalls P f args h ks (fun r h' => AGo P N R k .normal (ASt.put ⟨s.n, s.t, h'⟩ dst r))
  | .loop c k s => AGo P N R (.code (.loop c) :: k) .normal s
  | .drawn id l k s => AGo P N R (.code (.region id l.toArray true) :: k) .normal s
  | .goal I s => I s
  | .bad _ => False
  | .fuel k s => AGo P N R k .normal s

section
variable {P : Program} {N : Nat} {R : ASt → Prop}

theorem AGo_ret {s : ASt} (h : R s) : ∀ k, AGo P N R k .ret s
  | [] => h
  | .goal _ :: k => AGo_ret h k
  | .blk _ :: k => AGo_ret h k
  | .code _ :: k => AGo_ret h k
  | .ops _ _ :: k => AGo_ret h k
theorem AGo_exit {s : ASt} {id : Nat} (k : List Item) : ∀ {k' : List Item}, exitK id k = some k' → AGo P N R k' .normal s → AGo P N R k (.exit id) s := by
  induction k with
  | nil => intro k' h _; simp [exitK] at h
  | cons x k ih =>
    intro k' h hg
    cases x with
    | blk id' =>
      simp only [exitK] at h
      simp only [AGo]
      split at h
      · rename_i e; subst e; cases h; simpa using hg
      · rename_i e; rw [if_neg (fun e' => e e'.symm)]; exact ih h hg
    | goal I => simp only [exitK] at h; exact ih h hg
    | code c => simp only [exitK] at h; exact ih h hg
    | ops l a => simp only [exitK] at h; exact ih h hg

theorem AGo_skip {x : Item} {k : List Item} (hx : (match x with | .code _ => true | .ops _ _ => true | _ => false) = true) {e : Exit} {s : ASt} (he : e ≠ .normal) (h : AGo P N R (x :: k) e s) : AGo P N R k e s := by
  cases x <;> simp at hx <;> cases e <;> first | exact absurd rfl he | exact h

theorem go_seq {x y : Code} {s : ASt} {k : List Item} (h : AGo P N R (.code x :: .code y :: k) .normal s) : AGo P N R (.code (.seq x y) :: k) .normal s := by
  intro X μ0 h0 w0 μ a w hF hT
  refine wp_seq (Code.wp_mono ?_ (h X μ0 h0 w0 μ a w hF hT))
  intro e a' w' ⟨s', μ', q1, q2, q3⟩
  cases e with
  | normal => exact q1 X μ0 h0 w0 μ' a' w' q2 q3
  | _ => exact ⟨s', μ', AGo_skip rfl (by simp) q1, q2, q3⟩

theorem go_block {c : Code} {id : Nat} {s : ASt} {k : List Item} (h : AGo P N R (.code c :: .blk id :: k) .normal s) : AGo P N R (.code (.block id c) :: k) .normal s := by
  intro X μ0 h0 w0 μ a w hF hT
  refine wp_block (Code.wp_mono ?_ (h X μ0 h0 w0 μ a w hF hT))
  intro e a' w' ⟨s', μ', q1, q2, q3⟩
  cases e with
  | exit id' =>
    simp only [Exit.inBlock]
    simp only [AGo] at q1
    split
    · rename_i e; rw [if_pos e] at q1; exact ⟨s', μ', q1, q2, q3⟩
    · rename_i e; rw [if_neg e] at q1; exact ⟨s', μ', q1, q2, q3⟩
  | _ => exact ⟨s', μ', q1, q2, q3⟩

theorem go_cond {c : Operand} {x y : Code} {b : Bool} {s : ASt} {k : List Item} (hc : s.eval c = some (.one (.sc (.bool b)))) (h : AGo P N R (.code (if b then x else y) :: k) .normal s) : AGo P N R (.code (.cond c x y) :: k) .normal s := by
  intro X μ0 h0 w0 μ a w hF hT
  exact wp_cond (AV.sc_eq (hF.eval hc)) (h X μ0 h0 w0 μ a w hF hT)

theorem go_region {id : Nat} {ops : Array Oper} {s : ASt} {k : List Item} (h : AGo P N R (.ops ops.toList ops.toList :: k) .normal s) : AGo P N R (.code (.region id ops false) :: k) .normal s := by
  intro X μ0 h0 w0 μ a w hF hT
  have := h X μ0 h0 w0 μ a w hF hT
  exact wp_region_list (by simpa using this)

theorem go_nil {all : List Oper} {s : ASt} {k : List Item} (h : AGo P N R k .normal s) : AGo P N R (.ops [] all :: k) .normal s := by
  intro X μ0 h0 w0 μ a w hF hT
  exact wpList_nil ⟨s, μ, h, hF, hT⟩

theorem wanted_spec {X μ : List Nat} {s : ASt} {a : Act} {w : World} (hF : SimF X μ s a w) {all : List Oper} {o : Oper} {b : Bool} (h : wantedA all s.t o.guard = some b) : Region.wanted o (yielded all.toArray a.tmps) = b := by
  unfold wantedA at h
  unfold Region.wanted
  split at h
  · rename_i hg; cases h; rw [hg]
  · rename_i j want hg
    rw [hg]
    split at h
    · rename_i oj hj
      split at h
      · rename_i d hd
        have hy : ∀ v, look d s.t = some v → AV.rep (X ++ alive μ s.h) μ w v (a.tmps.getD d undef) := fun v hv => hF.reg d v hv
        split at h
        · rename_i bb hl
          cases h
          have := AV.sc_eq (hy _ hl)
          rw [Array.getD_eq_getD_getElem?] at this
          have e : a.tmps[d]? = some (.bool bb) := by
            cases hq : a.tmps[d]? with
            | none => rw [hq] at this; simp [undef] at this
            | some x => rw [hq] at this; simp at this; rw [this]
          simp [yielded, hj, hd, e]
        · rename_i hl
          cases h
          have := hy _ hl
          simp only [AV.rep] at this
          obtain ⟨arr, h1, h2⟩ := this
          rw [Array.getD_eq_getD_getElem?] at h1
          have e : yielded all.toArray a.tmps j = none := by
            simp only [yielded, List.getElem?_toArray, hj, Option.bind_some, hd]
            cases hq : a.tmps[d]? with
            | none => rfl
            | some x => rw [hq] at h1; simp at h1; subst h1; rfl
          simp [e]
        · cases h
      · cases h
    · cases h

theorem go_off {o : Oper} {l all : List Oper} {s : ASt} {k : List Item} (hw : wantedA all s.t o.guard = some false) (h : AGo P N R (.ops l all :: k) .normal (s.put o.dst aundef)) : AGo P N R (.ops (o :: l) all :: k) .normal s := by
  intro X μ0 h0 w0 μ a w hF hT
  unfold wpList
  rw [wanted_spec hF hw, if_neg (by simp)]
  have hh : (s.put o.dst aundef).h = s.h := by cases hd : o.dst <;> simp only [ASt.put]; split <;> rfl
  exact h X μ0 h0 w0 μ _ w (hF.put (AV.rep_undef _ _ _)) (by rw [hh]; exact hT)

theorem put_h (s : ASt) (d : Option Tmp) (v : AV) : (s.put d v).h = s.h := by cases d <;> simp only [ASt.put]; split <;> rfl

theorem go_val {o : Oper} {l all : List Oper} {s : ASt} {k : List Item} {v : AV} {h' : List Blk} (hw : wantedA all s.t o.guard = some true) (ho : aopX P s o = .val v h') (h : AGo P N R (.ops l all :: k) .normal (ASt.put ⟨s.n, s.t, h'⟩ o.dst v)) : AGo P N R (.ops (o :: l) all :: k) .normal s := by
  intro X μ0 h0 w0 μ a w hF hT
  unfold wpList
  rw [wanted_spec hF hw, if_pos rfl]
  left
  obtain ⟨u, w', μ', h1, h2, h3, h4⟩ := aopX_val hF ho
  unfold Oper.wp
  rw [h1]
  have hF' := (hF.step h3 h2).put (d := o.dst) h4
  exact h X μ0 h0 w0 μ' _ w' hF' (by rw [put_h]; exact hT.trans h3)

theorem go_do {o : Oper} {l all : List Oper} {s : ASt} {k : List Item} {h' : List Blk} (hw : wantedA all s.t o.guard = some true) (ho : aop P s o = .skip h') (h : AGo P N R (.ops l all :: k) .normal (ASt.put ⟨s.n, s.t, h'⟩ o.dst aundef)) : AGo P N R (.ops (o :: l) all :: k) .normal s := by
  intro X μ0 h0 w0 μ a w hF hT
  unfold wpList
  rw [wanted_spec hF hw, if_pos rfl]
  left
  obtain ⟨w', h1, h2, h3⟩ := aop_skip hF ho
  unfold Oper.wp
  rw [h1]
  have hF' := (hF.step h3 h2).put (d := o.dst) (AV.rep_undef _ _ _)
  exact h X μ0 h0 w0 μ _ w' hF' (by rw [put_h]; exact hT.trans h3)

theorem outer_of {X μ : List Nat} {h1 : List Blk} {ks : List Nat} : (∀ x ∈ outer X μ h1 ks, x ∈ X ++ alive μ h1) := fun x hx => by
  unfold outer at hx
  rcases List.mem_append.1 hx with hx | hx
  · exact List.mem_append.2 (.inl hx)
  · exact List.mem_append.2 (.inr (List.mem_filter.1 hx).1)

theorem calls_of {X μ : List Nat} {h : List Blk} {w : World} {f : FuncId} {args : List AV} {ks : List Nat} {K : AV → List Blk → Prop} {vs : Array Value} (hS : Sim X μ h w) (hr : AV.repl (X ++ alive μ h) μ w args vs.toList) (hc : ACalls P f args h ks K) :
    IsFn P f ∧ Calls P f vs w (fun e w' => ∃ r h' μ' v, e = .returned v ∧ K r h' ∧ Sim X μ' h' w' ∧ Stp μ h w μ' h' w' ∧ AV.rep (X ++ alive μ' h') μ' w' r v ∧ Keep (mapK μ ks) w w') := ⟨hc.1, hc.2 X μ w vs hS hr⟩

/-- a call to which the own blocks ks are handed over -/
theorem acalls_at {h : List Blk} {f : FuncId} {args : List AV} {K : AV → List Blk → Prop} (ks : List Nat) {args' : List AV} {H h1 : List Blk} {K' : AV → List Blk → Prop} (hp : prepC h ks args = some (args', H, h1)) (hc : ACall P f args' H K') (hK : ∀ r H', K' r H' → K (r.ren (back h1.length ks)) (merge h1 ks H')) : ACalls P f args h ks K := by
  obtain ⟨hp, hkn⟩ := prepC_some hp
  obtain ⟨hfn, hcall⟩ := hc
  refine ⟨hfn, fun X μ w vs hS hr => ?_⟩
  have hH := prep_sound hS hp hr
  have hX2 : ∀ (m g : Nat) (k : Blk), (mapK μ ks)[m]? = some g → H[m]? = some k → k.st.known = true → g ∉ outer X μ h1 ks := fun i g q hi hq hk hx => by
    have hg : g ∈ mapK μ ks := List.mem_of_getElem? hi
    unfold outer at hx
    rcases List.mem_append.1 hx with hx | hx
    · have hil : i < ks.length := by have := (List.getElem?_eq_some_iff.1 hi).1; simpa [mapK] using this
      obtain ⟨k, k', f1, f3, f4⟩ := hH.blk i _ (List.getElem?_eq_getElem hil)
      rw [hq] at f3; cases f3
      obtain ⟨g', hg', _⟩ := hH.sim.get f1
      have := mapK_get (List.getElem?_eq_getElem hil) hg'
      rw [hi] at this; cases this
      exact hH.sim.out _ k g f1 (by rw [← f4]; exact hk) hg' hx
    · have := (List.mem_filter.1 hx).2
      simp at this
      exact this hg
  obtain ⟨q1, q2⟩ := hH.out (outer X μ h1 ks) outer_of hX2
  refine (hcall _ _ w vs q1 q2).mono fun e w' ⟨r, H', μ', v, he, hk, s1, s2, s3⟩ => ?_
  obtain ⟨μ3, t1, t2, t3, t4⟩ := take_back hH hkn s1 s2 s3
  exact ⟨_, _, μ3, v, he, hK _ _ hk, t1, hH.stp.trans t2, t3, t4⟩

theorem go_call {o : Oper} {l all : List Oper} {s : ASt} {k : List Item} {f : FuncId} {args : List AV} {ks : List Nat} (hw : wantedA all s.t o.guard = some true) (ho : aop P s o = .call f args)
    (h : ACalls P f args s.h ks (fun r h' => AGo P N R (.ops l all :: k) .normal (ASt.put ⟨s.n, s.t, h'⟩ o.dst r))) : AGo P N R (.ops (o :: l) all :: k) .normal s := by
  intro X μ0 h0 w0 μ a w hF hT
  unfold wpList
  rw [wanted_spec hF hw, if_pos rfl]
  left
  obtain ⟨vs, h1, h2⟩ := aop_call hF ho
  obtain ⟨hfn, hc⟩ := calls_of hF.sim h1 h
  unfold Oper.wp
  rw [h2 hfn]
  refine Calls.mono hc fun e w' ⟨r, h', μ', v, he, hk, s1, s2, s3, _⟩ => ?_
  subst he
  have hF' := (hF.step s2 s1).put (d := o.dst) s3
  exact hk X μ0 h0 w0 μ' _ w' hF' (by rw [put_h]; exact hT.trans s2)

theorem arun_sound : ∀ (n : Nat) (k : List Item) (s : ASt), ADis P N R (arun P n k s) → AGo P N R k .normal s := by
  intro n
  induction n with
  | zero => intro k s h; unfold arun at h; exact h
  | succ n ih =>
    intro k s h
    have hops : ∀ (o : Oper) (l all : List Oper) (k : List Item), ADis P N R (awant P n (wantedA all s.t o.guard) o l all k s) → AGo P N R (.ops (o :: l) all :: k) .normal s := by
      intro o l all k h
      cases hw : wantedA all s.t o.guard with
      | none => rw [hw, awant] at h; exact h.elim
      | some b =>
        cases b with
        | false => rw [hw, awant] at h; exact go_off hw (ih _ _ h)
        | true =>
          rw [hw, awant] at h
          cases ho : aopX P s o with
          | val v h' => rw [ho, astep] at h; exact go_val hw ho (ih _ _ h)
          | skip h' => rw [ho, astep] at h; exact go_do hw (aopX_skip ho) (ih _ _ h)
          | call f args =>
            rw [ho, astep] at h
            obtain ⟨ks, h⟩ := h
            exact go_call hw (aopX_call ho) h
          | bad => rw [ho, astep] at h; exact h.elim
    cases k with
    | nil => rw [arun] at h; exact h
    | cons x k =>
      cases x with
      | goal I => rw [arun] at h; exact h
      | blk id => rw [arun] at h; show AGo P N R k .normal s; exact ih _ _ h
      | ops l all =>
        cases l with
        | nil => rw [arun] at h; exact go_nil (ih _ _ h)
        | cons o l => rw [arun] at h; exact hops o l all k h
      | code c =>
        cases c with
        | skip => rw [arun] at h; intro X μ0 h0 w0 μ a w hF hT; exact wp_skip ⟨s, μ, ih _ _ h, hF, hT⟩
        | seq a b => rw [arun] at h; exact go_seq (ih _ _ h)
        | region id ops d =>
          rw [arun] at h
          cases d with
          | true => simp only [if_true] at h; simpa [ADis] using h
          | false => exact go_region (ih _ _ (by simpa using h))
        | cond c x y =>
          rw [arun] at h
          unfold acond at h
          split at h
          · rename_i b hc
            cases b with
            | true => rw [abr] at h; exact go_cond hc (ih _ _ h)
            | false => rw [abr] at h; exact go_cond hc (ih _ _ h)
          · exact h.elim
        | block id c => rw [arun] at h; exact go_block (ih _ _ h)
        | loop c => rw [arun] at h; exact h
        | exit id =>
          rw [arun] at h
          cases he : exitK id k with
          | none => rw [he] at h; exact h.elim
          | some k' =>
            rw [he] at h
            intro X μ0 h0 w0 μ a w hF hT
            exact wp_exit ⟨s, μ, AGo_exit k he (ih _ _ h), hF, hT⟩
        | ret => rw [arun] at h; intro X μ0 h0 w0 μ a w hF hT; exact wp_ret ⟨s, μ, AGo_ret h k, hF, hT⟩
        | rangeFunc f p a b => rw [arun] at h; exact h.elim; all_goals simp
        | scope b => rw [arun] at h; exact h.elim; all_goals simp
        | label b => rw [arun] at h; exact h.elim; all_goals simp
        | goto b => rw [arun] at h; exact h.elim; all_goals simp
        | refuse b => rw [arun] at h; exact h.elim; all_goals simp

/-! ### loops -/
def ASt.gets (t : List (Nat × AV)) : List Nat → Option (List AV)
  | [] => some []
  | x :: l => match look x t, ASt.gets t l with | some v, some vs => some (v :: vs) | _, _ => none
def zipT : List Nat → List AV → List (Nat × AV)
  | x :: l, v :: vs => (x, v) :: zipT l vs
  | _, _ => []

theorem zip_look {t : List (Nat × AV)} {L μ : List Nat} {w : World} {tm : Array Value} (ht : ∀ (x : Nat) (v : AV), look x t = some v → AV.rep L μ w v (tm.getD x undef)) : ∀ {l : List Nat} {vs : List AV}, ASt.gets t l = some vs → ∀ (x : Nat) (v : AV), look x (zipT l vs) = some v → AV.rep L μ w v (tm.getD x undef)
  | [], vs, h, x, v, hl => by simp only [ASt.gets, Option.some.injEq] at h; subst h; simp [zipT, look] at hl
  | y :: l, vs, h, x, v, hl => by
    simp only [ASt.gets] at h
    split at h
    · rename_i v1 vs1 h1 h2
      cases h
      simp only [zipT, look] at hl
      split at hl
      · rename_i e; subst e; cases hl; exact ht _ _ h1
      · exact zip_look ht h2 x v hl
    · cases h

theorem wp_loop_rel {Q : Exit → Act → World → Prop} {a : Act} {w : World} {c : Code} (I : Nat → Act → World → Prop) (h0 : ∃ n, I n a w) (round : ∀ n a w, I n a w → c.wp P (Exit.then (fun a' w' => ∃ n', n' < n ∧ I n' a' w') Q) a w) : (Code.loop c).wp P Q a w := by
  intro b k cs
  have key : ∀ n a w, I n a w →
      ∃ e a' w', Q e a' w' ∧ Arrives P (lone (b.at a (.code c :: .inLoop c :: k)) cs w) b k cs e a' w' := by
    intro n
    induction n using Nat.strongRecOn with
    | _ n ih =>
      intro a w hI
      obtain ⟨e, a1, w1, hq, harr⟩ := round n a w hI b (.inLoop c :: k) cs
      cases e with
      | normal =>
        obtain ⟨n', hlt, hI1⟩ := hq
        obtain ⟨e2, a2, w2, hq2, harr2⟩ := ih n' hlt a1 w1 hI1
        exact ⟨e2, a2, w2, hq2, .of_steps (Steps.trans harr (.one step_inLoop)) harr2⟩
      | exit id => exact ⟨_, a1, w1, hq, .pass (x := .inLoop c) rfl (fun _ _ => .inl (by simp)) harr⟩
      | goto l => exact ⟨_, a1, w1, hq, .pass (x := .inLoop c) rfl (fun _ _ => .inl (by simp)) harr⟩
      | ret => exact ⟨_, a1, w1, hq, .pass (x := .inLoop c) rfl (fun _ _ => .inl (by simp)) harr⟩
      | panic ch => exact ⟨_, a1, w1, hq, .pass (x := .inLoop c) rfl (fun _ _ => .inl (by simp)) harr⟩
      | outgrown => exact ⟨_, a1, w1, hq, .pass (x := .inLoop c) rfl (fun _ _ => .inl (by simp)) harr⟩
  obtain ⟨n, hn⟩ := h0
  obtain ⟨e, a', w', hq, harr⟩ := key n a w hn
  exact ⟨e, a', w', hq, .of_steps (.one step_loop) harr⟩

theorem StpN.prep {μ0 : List Nat} {h0 : List Blk} {w0 w : World} {X μ : List Nat} {h : List Blk} {ks : List Nat} {vs' : List AV} {us : List Value} {K h1 : List Blk} (hT : StpN N μ0 h0 w0 μ h w) (hH : Handed X μ h w (List.range N ++ ks) vs' us K h1) : StpN N μ0 h0 w0 (mapK μ (List.range N ++ ks)) K w := by
  refine ⟨hT.keep, fun b g hb e => mapK_get (b := b) (by rw [List.getElem?_append_left (by simpa using hb), List.getElem?_range hb]) (hT.map b g hb e), fun g hg hl => ?_⟩
  obtain ⟨i, q, e1, e2, e3⟩ := mem_alive.1 hg
  have hil : i < (List.range N ++ ks).length := by have := (List.getElem?_eq_some_iff.1 e1).1; simpa [mapK] using this
  obtain ⟨k, k', f1, f3, f4⟩ := hH.blk i _ (List.getElem?_eq_getElem hil)
  rw [f3] at e2; cases e2
  obtain ⟨g', hg', _⟩ := hH.sim.get f1
  have := mapK_get (List.getElem?_eq_getElem hil) hg'
  rw [e1] at this; cases this
  have : g ∈ alive μ h1 := mem_alive.2 ⟨_, k, hg', f1, by rw [← f4]; exact e3⟩
  exact hT.old g (hH.stp.old g this (Nat.lt_of_lt_of_le hl hT.keep.size)) hl

theorem Handed.apart {X μ : List Nat} {h : List Blk} {w : World} {ks : List Nat} {vs' : List AV} {us : List Value} {K h1 : List Blk} (hH : Handed X μ h w ks vs' us K h1) : ∀ (m g : Nat) (k : Blk), (mapK μ ks)[m]? = some g → K[m]? = some k → k.st.known = true → g ∉ X := fun i g q hi hq hk => by
  have hil : i < ks.length := by have := (List.getElem?_eq_some_iff.1 hi).1; simpa [mapK] using this
  obtain ⟨k, k', f1, f3, f4⟩ := hH.blk i _ (List.getElem?_eq_getElem hil)
  rw [hq] at f3; cases f3
  obtain ⟨g', hg', _⟩ := hH.sim.get f1
  have := mapK_get (List.getElem?_eq_getElem hil) hg'
  rw [hi] at this; cases this
  exact hH.sim.out _ k g f1 (by rw [← f4]; exact hk) hg'
theorem Handed.free {X μ : List Nat} {h : List Blk} {w : World} {ks : List Nat} {vs' : List AV} {us : List Value} {K h1 : List Blk} (hH : Handed X μ h w ks vs' us K h1) : Sim X (mapK μ ks) K w ∧ AV.repl (X ++ alive (mapK μ ks) K) (mapK μ ks) w vs' us := by
  exact hH.out X (fun x hx => List.mem_append.2 (.inl hx)) hH.apart

theorem gets_repl {t : List (Nat × AV)} {L μ : List Nat} {w : World} {tm : Array Value} (ht : ∀ (x : Nat) (v : AV), look x t = some v → AV.rep L μ w v (tm.getD x undef)) : ∀ {l : List Nat} {vs : List AV}, ASt.gets t l = some vs → AV.repl L μ w vs (l.map fun x => tm.getD x undef)
  | [], vs, h => by simp only [ASt.gets, Option.some.injEq] at h; subst h; simp [AV.repl]
  | x :: l, vs, h => by
    simp only [ASt.gets] at h
    split at h
    · rename_i v1 vs1 h1 h2
      cases h
      simp only [List.map_cons, AV.repl]
      exact ⟨_, _, rfl, ht x v1 h1, gets_repl ht h2⟩
    · cases h
theorem repl_zip {L μ : List Nat} {w : World} {tm : Array Value} : ∀ {l : List Nat} {vs : List AV}, AV.repl L μ w vs (l.map fun x => tm.getD x undef) → ∀ (x : Nat) (v : AV), look x (zipT l vs) = some v → AV.rep L μ w v (tm.getD x undef)
  | [], vs, h, x, v, hl => by cases vs <;> simp [zipT, look] at hl
  | y :: l, [], h, x, v, hl => by simp [zipT, look] at hl
  | y :: l, v1 :: vs, h, x, v, hl => by
    simp only [List.map_cons, AV.repl] at h
    obtain ⟨u, us', e, h1, h2⟩ := h
    cases e
    simp only [zipT, look] at hl
    split at hl
    · rename_i e; subst e; cases hl; exact h1
    · exact repl_zip h2 x v hl

/-- the state, brought down to these slots and these own blocks (beside the first N) -/
def AHead (N : Nat) (l : List Nat) (I : List AV → List Blk → Prop) (s : ASt) : Prop :=
  (∃ ks, match ASt.gets s.t l with
    | some vs => (match prep false s.h (List.range N ++ ks) vs with
      | some (vs', K, _) => I vs' K
      | none => False)
    | none => False) ∨ ∃ vs, ASt.gets s.t l = some vs ∧ I vs s.h

theorem head_sound {X μ0 : List Nat} {h0 : List Blk} {w0 : World} {μ : List Nat} {s : ASt} {a : Act} {w : World} {l : List Nat} {I : List AV → List Blk → Prop} (hF : SimF X μ s a w) (hT : StpN N μ0 h0 w0 μ s.h w) (h : AHead N l I s) :
    ∃ μ' vs K, I vs K ∧ SimF X μ' ⟨s.n, zipT l vs, K⟩ a w ∧ StpN N μ0 h0 w0 μ' K w := by
  rcases h with ⟨ks, h⟩ | ⟨vs, hvs, h⟩
  case inr => exact ⟨μ, vs, s.h, h, ⟨hF.size, hF.ds, hF.sim, zip_look hF.reg hvs⟩, hT⟩
  split at h
  · rename_i vs hvs
    split at h
    · rename_i vs' K h1 hp
      have hH := prep_sound hF.sim hp (gets_repl hF.reg hvs)
      obtain ⟨s1, s2⟩ := hH.free
      exact ⟨_, vs', K, h, ⟨hF.size, hF.ds, s1, repl_zip s2⟩, hT.prep hH⟩
    · exact h.elim
  · exact h.elim

/-- what holds of these slots and of the own blocks at each round's head -/
theorem go_loop {c : Code} {s : ASt} {k : List Item} (l : List Nat) (I : List AV → List Blk → Prop) (m : List AV → List Blk → Nat) (h0 : AHead N l I s)
    (hr : ∀ vs h, I vs h → AGo P N R (.code c :: .goal (fun s' => s'.n = s.n ∧ AHead N l (fun vs' h' => I vs' h' ∧ m vs' h' < m vs h) s') :: k) .normal ⟨s.n, zipT l vs, h⟩) : AGo P N R (.code (.loop c) :: k) .normal s := by
  intro X μ0 hh0 w0 μ a w hF hT
  refine wp_loop_rel (fun n a w => ∃ μ vs h, I vs h ∧ SimF X μ ⟨s.n, zipT l vs, h⟩ a w ∧ StpN N μ0 hh0 w0 μ h w ∧ m vs h = n) ?_ ?_
  · obtain ⟨μ', vs, K, q1, q2, q3⟩ := head_sound hF hT h0
    exact ⟨_, μ', vs, K, q1, q2, q3, rfl⟩
  · intro n a w ⟨μ, vs, h, hI, hF, hT, hm⟩
    refine Code.wp_mono ?_ (hr vs h hI X μ0 hh0 w0 μ a w hF hT)
    intro e a' w' ⟨s', μ', q1, q2, q3⟩
    cases e with
    | normal =>
      obtain ⟨hn, hh⟩ := q1
      obtain ⟨μ2, vs', K, ⟨hI', hlt⟩, r2, r3⟩ := head_sound q2 q3 hh
      exact ⟨_, by rw [← hm]; exact hlt, μ2, vs', K, hI', by rw [← hn]; exact r2, r3, rfl⟩
    | _ => exact ⟨s', μ', q1, q2, q3⟩

/-- a loop of at most so many rounds, round by round -/
def ALoop (P : Program) (N : Nat) (R : ASt → Prop) (c : Code) (k : List Item) : Nat → ASt → Prop
  | 0, _ => False
  | n + 1, s => AGo P N R (.code c :: .goal (ALoop P N R c k n) :: k) .normal s
theorem go_rounds {c : Code} {s : ASt} {k : List Item} (n : Nat) (h : ALoop P N R c k n s) : AGo P N R (.code (.loop c) :: k) .normal s := by
  intro X μ0 hh0 w0 μ a w hF hT
  refine wp_loop_rel (fun n a w => ∃ μ s, ALoop P N R c k n s ∧ SimF X μ s a w ∧ StpN N μ0 hh0 w0 μ s.h w) ⟨n, μ, s, h, hF, hT⟩ ?_
  intro n a w ⟨μ, s, hL, hF, hT⟩
  cases n with
  | zero => exact hL.elim
  | succ n =>
    refine Code.wp_mono ?_ (hL X μ0 hh0 w0 μ a w hF hT)
    intro e a' w' ⟨s', μ', q1, q2, q3⟩
    cases e with
    | normal => exact ⟨n, Nat.lt_succ_self n, μ', s', q1, q2, q3⟩
    | _ => exact ⟨s', μ', q1, q2, q3⟩

/-! ### a function as a whole -/
def slots : Nat → List AV → List (Nat × AV)
  | _, [] => []
  | i, v :: vs => (i, v) :: slots (i + 1) vs
def ares' (P : Program) (s : ASt) : List ResultVar → Option (List AV)
  | [] => some []
  | .tmp t :: l => match look t s.t, ares' P s l with | some v, some vs => some (v :: vs) | _, _ => none
  | .cell t ty :: l => match look t s.t, ares' P s l with
    | some (.one p), some vs => match aload P s.h ty p with | some v => some (v :: vs) | none => none
    | _, _ => none
def aresult (P : Program) (s : ASt) (rs : List ResultVar) : Option AV := match ares' P s rs with
  | some [v] => some v
  | some vs => some (.tup vs)
  | none => none

theorem slots_look {L μ : List Nat} {w : World} : ∀ {vs : List AV} {us : List Value}, AV.repl L μ w vs us → ∀ (i x : Nat) (v : AV), look x (slots i vs) = some v → i ≤ x ∧ ∃ u, us[x - i]? = some u ∧ AV.rep L μ w v u
  | [], us, h, i, x, v, hl => by simp [slots, look] at hl
  | v0 :: vs, us, h, i, x, v, hl => by
    simp only [AV.repl] at h
    obtain ⟨u, us', rfl, h1, h2⟩ := h
    simp only [slots, look] at hl
    split at hl
    · rename_i e; subst e; cases hl; exact ⟨Nat.le_refl _, u, by simp, h1⟩
    · obtain ⟨q1, u', q2, q3⟩ := slots_look h2 (i + 1) x v hl
      refine ⟨by omega, u', ?_, q3⟩
      rw [show x - i = (x - (i + 1)) + 1 from by omega, List.getElem?_cons_succ]; exact q2

theorem AV.repl_length {L μ : List Nat} {w : World} : ∀ {vs : List AV} {us : List Value}, AV.repl L μ w vs us → us.length = vs.length
  | [], us, h => by simp only [AV.repl] at h; simp [h]
  | v :: vs, us, h => by
    simp only [AV.repl] at h
    obtain ⟨u, us', rfl, _, h3⟩ := h
    simp [AV.repl_length h3]

def resF (tm : Array Value) : ResultVar → Sem Value
  | .tmp t => pure (tm.getD t undef)
  | .cell a t => do loadVar t (← asAddr (tm.getD a undef))

theorem ares_sound {X μ : List Nat} {s : ASt} {a : Act} {w : World} (hF : SimF X μ s a w) : ∀ {rs : List ResultVar} {vs : List AV}, ares' P s rs = some vs → ∃ us : List Value, AV.repl (X ++ alive μ s.h) μ w vs us ∧ (rs.mapM (resF a.tmps)).run P w = .ok us w
  | [], vs, h => by
    simp only [ares', Option.some.injEq] at h
    subst h
    exact ⟨[], by simp [AV.repl], by simp⟩
  | .tmp t :: rs, vs, h => by
    simp only [ares'] at h
    split at h
    · rename_i v vs' h1 h2
      cases h
      obtain ⟨us, q1, q2⟩ := ares_sound hF h2
      exact ⟨_ :: us, by simp only [AV.repl]; exact ⟨_, _, rfl, hF.reg t v h1, q1⟩, by simp [List.mapM_cons, q2, resF]⟩
    · cases h
  | .cell t ty :: rs, vs, h => by
    simp only [ares'] at h
    split at h
    · rename_i p vs' h1 h2
      split at h
      · rename_i v hv
        cases h
        obtain ⟨us, q1, q2⟩ := ares_sound hF h2
        obtain ⟨g, u, _, _, h3, h4⟩ := op_load (P := P) (o := { dst := none, op := .load ty (.tmp t), type := 0, pos := "", after := #[], guard := none }) (x := .tmp t) (t := ty) rfl hF h1 hv
        have h5 := h3 w rfl
        have hp := hF.reg t _ h1
        simp only [AV.rep] at hp
        have h6 : (resF a.tmps (.cell t ty)).run P w = .ok u w := by
          have hsh : ∃ ad, a.tmps.getD t undef = .pointer (some ad) := by
            unfold aload at hv
            split at hv
            · rename_i ti cs hti hcs
              obtain ⟨g, off, he, _⟩ := acells_spec hF.sim hcs hp
              exact ⟨_, he⟩
            · cases hv
          obtain ⟨ad, had⟩ := hsh
          have e : a.eval (.tmp t) = .pointer (some ad) := had
          simp only [execOp, Sem.run_bind, e, Instr.loadAt, Instr.sureAddr, Sem.run_pure, Result.andThen_ok] at h5
          simp only [resF, had, asAddr, Sem.run_bind, Sem.run_pure, Result.andThen_ok]
          cases hq : (loadVar ty ad).run P w with
          | ok x w1 => rw [hq] at h5; simp at h5; rw [h5.1, h5.2]
          | halt x w1 => rw [hq] at h5; simp at h5
        exact ⟨u :: us, by simp only [AV.repl]; exact ⟨_, _, rfl, h4, q1⟩, by simp [List.mapM_cons, q2, h6]⟩
      · cases h
    · cases h

theorem aresult_sound {X μ : List Nat} {s : ASt} {a : Act} {w : World} (hF : SimF X μ s a w) {fn : Func} {v : AV} (h : aresult P s fn.results.toList = some v) : ∃ u, AV.rep (X ++ alive μ s.h) μ w v u ∧ (results fn a.tmps).run P w = .ok u w := by
  have key : ∀ vs, ares' P s fn.results.toList = some vs → ∃ us : List Value, AV.repl (X ++ alive μ s.h) μ w vs us ∧ (results fn a.tmps).run P w = .ok (if h : us.toArray.size = 1 then us.toArray[0] else .tuple us.toArray) w := by
    intro vs hvs
    obtain ⟨us, q1, q2⟩ := ares_sound hF hvs
    refine ⟨us, q1, ?_⟩
    have hm : (fn.results.mapM (resF a.tmps)).run P w = .ok us.toArray w := by
      rw [Array.mapM_eq_mapM_toList]
      simp [q2]
    have hr : results fn a.tmps = (do let vs ← fn.results.mapM (resF a.tmps); pure (if h : vs.size = 1 then vs[0] else .tuple vs)) := rfl
    rw [hr]
    simp only [Sem.run_bind, hm, Result.andThen_ok, Sem.run_pure]
  unfold aresult at h
  split at h
  · rename_i v1 hv1
    cases h
    obtain ⟨us, q1, q2⟩ := key _ hv1
    simp only [AV.repl] at q1
    obtain ⟨u, us', rfl, r1, rfl⟩ := q1
    exact ⟨u, r1, by rw [q2]; simp⟩
  · rename_i vs hne hvs
    cases h
    obtain ⟨us, q1, q2⟩ := key _ hvs
    have hl := AV.repl_length q1
    have : ¬ us.toArray.size = 1 := fun e => by
      have e : us.length = 1 := by simpa using e
      rw [e] at hl
      match vs, hl with
      | [x], _ => exact hne x rfl
      | [], hl => simp at hl
      | _ :: _ :: _, hl => simp at hl
    refine ⟨.tuple us.toArray, by simp only [AV.rep]; exact ⟨_, rfl, by simpa using q1⟩, by rw [q2, dif_neg this]⟩
  · cases h

/-- what is asked at the end: ks the own blocks that are handed back beside those that came in -/
def ARet (P : Program) (rs : List ResultVar) (n : Nat) (K : AV → List Blk → Prop) (s : ASt) : Prop :=
  (∃ ks z, match aresult P s rs with
    | some r => (match prep z s.h (List.range n ++ ks) [r] with
      | some ([r'], H', _) => K r' H'
      | _ => False)
    | none => False) ∨ ∃ r, aresult P s rs = some r ∧ K r s.h

/-- A function's contract, from a run of its body. -/
theorem acall_of {f : FuncId} {fn : Func} {c : Code} {args : List AV} {H : List Blk} {K : AV → List Blk → Prop} (hf : P.funcs[f]? = some fn) (hb : fn.body = some c) (hfn : IsFn P f) (hn : args.length ≤ fn.ntmps)
    (h : AGo P H.length (ARet P fn.results.toList H.length K) [.code c] .normal ⟨fn.ntmps, slots 0 args, H⟩) : ACall P f args H K := by
  refine ⟨hfn, fun X μ w vs hS hr => calls_of_wp hf hb ?_⟩
  have hvl : vs.size = args.length := by have := AV.repl_length hr; simpa using this
  have hF : SimF X μ ⟨fn.ntmps, slots 0 args, H⟩ { tmps := vs ++ Array.replicate (fn.ntmps - vs.size) undef, defers := [] } w := by
    refine ⟨by simp; omega, rfl, hS, fun t v hl => ?_⟩
    obtain ⟨_, u, h1, h2⟩ := slots_look hr 0 t v hl
    have h1' : vs[t]? = some u := by simpa using h1
    have hlt := (Array.getElem?_eq_some_iff.1 h1').1
    rw [Array.getD_eq_getD_getElem?, Array.getElem?_append_left hlt, h1']
    exact h2
  refine Code.wp_mono ?_ (h X μ H w μ _ w hF (StpN.refl _ _ _ _))
  intro e a' w' ⟨s', μ', q1, q2, q3⟩
  have fin : (∃ ks z, ∃ r r' H' h1, aresult P s' fn.results.toList = some r ∧ prep z s'.h (List.range H.length ++ ks) [r] = some ([r'], H', h1) ∧ K r' H') → bodyPost P fn (fun e w' => ∃ r H' μ' v, e = .returned v ∧ K r H' ∧ Sim X μ' H' w' ∧ Stp μ H w μ' H' w' ∧ AV.rep (X ++ alive μ' H') μ' w' r v) .normal a' w' := by
    rintro ⟨ks, z, r, r', H', h1, hres, hp, hK⟩
    obtain ⟨u, hu, hrun⟩ := aresult_sound q2 hres
    refine ⟨q2.ds, u, hrun, r', H', mapK μ' (List.range H.length ++ ks), u, rfl, hK, ?_⟩
    have hH := prep_sound q2.sim hp (us := [u]) (by simp only [AV.repl]; exact ⟨u, [], rfl, hu, rfl⟩)
    obtain ⟨s1, s2⟩ := hH.free
    simp only [AV.repl] at s2
    obtain ⟨u', _, e1, s2, _⟩ := s2
    cases e1
    refine ⟨s1, ⟨q3.keep, fun b g hb => ?_, fun g hg hlt => ?_⟩, s2⟩
    · have hbl : b < H.length := by rw [← hS.len]; exact (List.getElem?_eq_some_iff.1 hb).1
      exact mapK_get (b := b) (by rw [List.getElem?_append_left (by simpa using hbl), List.getElem?_range hbl]) (q3.map b g hbl hb)
    · obtain ⟨i, q, e1, e2, e3⟩ := mem_alive.1 hg
      have hil : i < (List.range H.length ++ ks).length := by have := (List.getElem?_eq_some_iff.1 e1).1; simpa [mapK] using this
      obtain ⟨k, k', f1, f3, f4⟩ := hH.blk i _ (List.getElem?_eq_getElem hil)
      rw [f3] at e2; cases e2
      obtain ⟨g', hg', _⟩ := hH.sim.get f1
      have := mapK_get (List.getElem?_eq_getElem hil) hg'
      rw [e1] at this; cases this
      have : g ∈ alive μ' h1 := mem_alive.2 ⟨_, k, hg', f1, by rw [← f4]; exact e3⟩
      exact q3.old g (hH.stp.old g this (Nat.lt_of_lt_of_le hlt q3.keep.size)) hlt
  have conv : ARet P fn.results.toList H.length K s' → bodyPost P fn (fun e w' => ∃ r H' μ' v, e = .returned v ∧ K r H' ∧ Sim X μ' H' w' ∧ Stp μ H w μ' H' w' ∧ AV.rep (X ++ alive μ' H') μ' w' r v) .normal a' w' := by
    rintro (⟨ks, z, hq⟩ | ⟨r, hr, hK⟩)
    · split at hq
      · rename_i r hr
        split at hq
        · rename_i r' H' h1 hp
          exact fin ⟨ks, z, r, r', H', h1, hr, hp, hq⟩
        · exact hq.elim
      · exact hq.elim
    · obtain ⟨u, hu, hrun⟩ := aresult_sound q2 hr
      exact ⟨q2.ds, u, hrun, r, s'.h, μ', u, rfl, hK, q2.sim, ⟨q3.keep, fun b g hb => q3.map b g (by rw [← hS.len]; exact (List.getElem?_eq_some_iff.1 hb).1) hb, q3.old⟩, hu⟩
  cases e with
  | normal => exact conv q1
  | ret => exact conv q1
  | _ => exact q1.elim
end
end Go.Proofs.Sh
/- A region that draws its order: one walk of the lexical order serves every order, where what writes or calls is ordered and all else yields one value in every world of a class. No program in sight. -/
namespace Go.Proofs.Sh
section
variable {P : Program} {ops : Array Oper} {C : World → Prop} {Q : Exit → Act → World → Prop} {loud : Oper → Bool} {fin : Nat → Bool} {rd : Oper → Bool}

def QF : Exit → Act → World → Prop := fun _ _ _ => False

/-- The operation yields v in every world of the class, and leaves the world. -/
def Cls (C : World → Prop) (b : Bool) : World → Prop := if b then C else fun _ => True

def Calm (P : Program) (C : World → Prop) (o : Oper) (a : Act) (v : Value) : Prop := ∀ w, C w → (execOp a.eval o).run P w = .ok (.value v) w

def mOp (P : Program) (ops : Array Oper) (C : World → Prop) (loud rd : Oper → Bool) (fin : Nat → Bool) (i : Nat) (K : Act → World → Prop) (a : Act) (w : World) : Prop :=
  match ops[i]? with
  | none => K a w
  | some o =>
    if Region.wanted o (yielded ops a.tmps) then
      if loud o then o.wp P a w (fun a' w' => (fin i = true ∨ C w') ∧ K a' w') QF else ∃ v, Calm P (Cls C (rd o)) o a v ∧ K (a.put o.dst v) w
    else K (a.put o.dst undef) w

theorem mOp_mono {i : Nat} {a : Act} {w : World} {K K' : Act → World → Prop} (h : ∀ a w, K a w → K' a w) (hh : mOp P ops C loud rd fin i K a w) : mOp P ops C loud rd fin i K' a w := by
  unfold mOp at *
  split
  · exact h _ _ (by simpa [*] using hh)
  · rename_i o ho
    simp only [ho] at hh
    split
    · rename_i hw
      simp only [hw, if_true] at hh
      split
      · rename_i hl; simp only [hl, if_true] at hh; exact Oper.wp_mono (fun a w hk => ⟨hk.1, h _ _ hk.2⟩) hh
      · rename_i hl; simp only [hl] at hh; exact let ⟨v, h1, h2⟩ := hh; ⟨v, h1, h _ _ h2⟩
    · rename_i hw; simp only [hw] at hh; exact h _ _ hh

theorem Calm.of_same {o : Oper} {v : Value} {a a' : Act} (h : Calm P C o a v) (he : execOp a'.eval o = execOp a.eval o) : Calm P C o a' v := by
  unfold Calm at *; rw [he]; exact h

theorem QF_wp {o : Oper} {a : Act} {w : World} {K : Act → World → Prop} (h : o.wp P a w K QF) : o.wp P a w K Q := by
  unfold Oper.wp at *
  generalize (execOp a.eval o).run P w = r at *
  cases r with
  | ok n w' =>
    cases n <;> simp only [Oper.upon] at h ⊢ <;>
      first
        | exact h
        | exact Calls.mono h (fun e w'' he => by
            cases e with
            | returned v => exact he
            | panicked c => exact (he : False).elim
            | outgrown => exact he.elim (fun _ ⟨_, hf⟩ => (hf : False).elim))
  | halt x w' => cases x <;> simp only [Oper.upon] at h ⊢ <;> first | exact h.elim | exact (h : False).elim

/-- A loud operation has an outcome, and its frame is the old one but for its own slot. -/
theorem wp_some {o : Oper} {a : Act} {w : World} {K : Act → World → Prop} (h : o.wp P a w K QF) : ∃ a' w', K a' w' ∧ ∃ v ds, a' = ({ a with defers := ds } : Act).put o.dst v := by
  unfold Oper.wp at *
  generalize (execOp a.eval o).run P w = r at *
  cases r with
  | ok n w' =>
    cases n <;> simp only [Oper.upon] at h
    case value v => exact ⟨_, _, h, v, a.defers, rfl⟩
    case skip => exact ⟨_, _, h, undef, a.defers, rfl⟩
    case defer d => exact ⟨_, _, h, undef, d :: a.defers, rfl⟩
    case enter f args =>
      obtain ⟨e, w'', fr, hR, _⟩ := h []
      cases e with
      | returned v => exact ⟨_, _, hR, v, a.defers, rfl⟩
      | panicked c => exact (hR : False).elim
      | outgrown => exact hR.elim (fun _ ⟨_, hf⟩ => (hf : False).elim)
    case row row args =>
      obtain ⟨v, w'', hR, _⟩ := h default []
      exact ⟨_, _, hR, v, a.defers, rfl⟩
  | halt x w' => cases x <;> simp only [Oper.upon] at h <;> first | exact h.elim | exact (h : False).elim

theorem Act.put_ds (a : Act) (x : Option Tmp) (v : Value) (ds : List Deferred) : ({ a.put x v with defers := ds } : Act) = ({ a with defers := ds } : Act).put x v := by
  cases x <;> rfl

/-- A loud operation, from a frame in which another slot has been filled before. -/
theorem wp_put {oj : Oper} {d : Option Tmp} {v : Value} (hsj : ∀ cs b, oj.op ≠ .select cs b) (h1 : ∀ t, d = some t → t ∉ oj.looksAt ops) (h2 : ∀ t, d = some t → oj.dst ≠ some t)
    {K : Act → World → Prop} {a : Act} {w : World} (h : oj.wp P (a.put d v) w K QF) : oj.wp P a w (fun a' w' => K (a'.put d v) w' ∧ ∃ u ds, a' = ({ a with defers := ds } : Act).put oj.dst u) QF := by
  unfold Oper.wp at *
  rw [execOp_put oj hsj a d v h1] at h
  generalize (execOp a.eval oj).run P w = r at *
  cases r with
  | ok n w' =>
    cases n <;> simp only [Oper.upon] at h ⊢
    case value u => exact ⟨by rw [← Act.put_comm a v u h2]; exact h, u, a.defers, rfl⟩
    case skip => exact ⟨by rw [← Act.put_comm a v undef h2]; exact h, undef, a.defers, rfl⟩
    case defer dd =>
      refine ⟨?_, undef, dd :: a.defers, rfl⟩
      rw [← Act.put_comm _ v undef h2, ← Act.put_defers]
      exact h
    case enter f args =>
      refine Calls.mono h fun e w'' he => ?_
      cases e with
      | returned u => exact ⟨by rw [← Act.put_comm a v u h2]; exact he, u, a.defers, rfl⟩
      | panicked c => exact he
      | outgrown => exact he
    case row row args => exact Rows.mono h fun u w'' he => ⟨by rw [← Act.put_comm a v u h2]; exact he, u, a.defers, rfl⟩
  | halt x w' => cases x <;> simp only [Oper.upon] at h ⊢ <;> exact h

/-- .. and the other way. -/
theorem wp_unput {oj : Oper} {d : Option Tmp} {v : Value} (hsj : ∀ cs b, oj.op ≠ .select cs b) (h1 : ∀ t, d = some t → t ∉ oj.looksAt ops) (h2 : ∀ t, d = some t → oj.dst ≠ some t)
    {K : Act → World → Prop} {a : Act} {w : World} (h : oj.wp P a w (fun a' w' => (∃ u ds, a' = ({ a with defers := ds } : Act).put oj.dst u) → K (a'.put d v) w') QF) : oj.wp P (a.put d v) w K QF := by
  unfold Oper.wp at *
  rw [execOp_put oj hsj a d v h1]
  generalize (execOp a.eval oj).run P w = r at *
  cases r with
  | ok n w' =>
    cases n <;> simp only [Oper.upon] at h ⊢
    case value u => rw [Act.put_comm a v u h2]; exact h ⟨u, a.defers, rfl⟩
    case skip => rw [Act.put_comm a v undef h2]; exact h ⟨undef, a.defers, rfl⟩
    case defer dd =>
      rw [Act.put_defers, Act.put_comm _ v undef h2]
      exact h ⟨undef, dd :: a.defers, rfl⟩
    case enter f args =>
      refine Calls.mono h fun e w'' he => ?_
      cases e with
      | returned u => simp only at he ⊢; rw [Act.put_comm a v u h2]; exact he ⟨u, a.defers, rfl⟩
      | panicked c => exact he
      | outgrown => exact he
    case row row args => exact Rows.mono h fun u w'' he => by rw [Act.put_comm a v u h2]; exact he ⟨u, a.defers, rfl⟩
  | halt x w' => cases x <;> simp only [Oper.upon] at h ⊢ <;> exact h

theorem Act.eval_ds (a : Act) (ds : List Deferred) : ({ a with defers := ds } : Act).eval = a.eval := funext fun x => by cases x <;> rfl

/-- Two operations that come up now change places. -/
theorem mOp_comm {i j : Nat} {oi oj : Oper} (hi : ops[i]? = some oi) (hj : ops[j]? = some oj) (hap : oi.apart ops oj = true) (hl : (loud oi && loud oj) = false)
    (hsi : ∀ cs b, oi.op ≠ .select cs b) (hsj : ∀ cs b, oj.op ≠ .select cs b) {K : Act → World → Prop} {a : Act} {w : World} (hC : Cls C (rd oj) w)
    (h : mOp P ops C loud rd fin i (mOp P ops C loud rd fin j K) a w) : mOp P ops C loud rd fin j (mOp P ops C loud rd fin i K) a w := by
  obtain ⟨h1, h2, h3⟩ := Oper.apart_spec hap
  have h2' : ∀ d, oj.dst = some d → oi.dst ≠ some d := fun d hd he => h2 d he hd
  have wj : ∀ (a : Act) v, Region.wanted oj (yielded ops (a.put oi.dst v).tmps) = Region.wanted oj (yielded ops a.tmps) := fun a v => wanted_put oj a oi.dst v h1
  have wi : ∀ (a : Act) v, Region.wanted oi (yielded ops (a.put oj.dst v).tmps) = Region.wanted oi (yielded ops a.tmps) := fun a v => wanted_put oi a oj.dst v h3
  have ej : ∀ (a : Act) v, execOp (a.put oi.dst v).eval oj = execOp a.eval oj := fun a v => execOp_put oj hsj a oi.dst v h1
  have ei : ∀ (a : Act) v, execOp (a.put oj.dst v).eval oi = execOp a.eval oi := fun a v => execOp_put oi hsi a oj.dst v h3
  unfold mOp at *
  simp only [hi, hj] at *
  by_cases hwi : Region.wanted oi (yielded ops a.tmps) = true <;> by_cases hwj : Region.wanted oj (yielded ops a.tmps) = true
  · simp only [hwi, hwj, if_true] at h ⊢
    by_cases li : loud oi = true
    · have lj : loud oj = false := by simpa [li] using hl
      simp only [li, lj, if_true, Bool.false_eq_true, if_false] at h ⊢
      obtain ⟨a', w', ⟨_, hK⟩, u, ds, ha'⟩ := wp_some h
      subst ha'
      rw [wj, if_pos hwj] at hK
      obtain ⟨v, hv, _⟩ := hK
      have hv' : Calm P (Cls C (rd oj)) oj a v := hv.of_same (by rw [ej]; rw [Act.eval_ds a ds])
      refine ⟨v, hv', ?_⟩
      rw [wi, if_pos hwi]
      refine wp_unput (ops := ops) hsi h3 h2' (Oper.wp_mono (fun a' w' hk => ?_) h)
      rintro ⟨u, ds, ha'⟩
      subst ha'
      obtain ⟨hf, hk⟩ := hk
      rw [wj, if_pos hwj] at hk
      obtain ⟨v', hv2, hk⟩ := hk
      have e1 := hv' w hC
      have e2 := (hv2.of_same (a' := a) (by rw [ej]; rw [Act.eval_ds a ds])) w hC
      rw [e1] at e2
      simp only [Result.ok.injEq, Next.value.injEq, and_true] at e2
      rw [e2]; exact ⟨hf, hk⟩
    · simp only [li, if_false, Bool.false_eq_true] at h ⊢
      obtain ⟨v, hv, h⟩ := h
      rw [wj, if_pos hwj] at h
      by_cases lj : loud oj = true
      · simp only [lj, if_true] at h ⊢
        refine Oper.wp_mono (fun a' w' hk => ?_) (wp_put (ops := ops) hsj h1 h2 h)
        obtain ⟨⟨hf, hk⟩, u, ds, ha'⟩ := hk
        subst ha'
        refine ⟨hf, ?_⟩
        rw [wi, if_pos (by exact hwi)]
        exact ⟨v, hv.of_same (by rw [ei]; rw [Act.eval_ds a ds]), hk⟩
      · simp only [lj, if_false, Bool.false_eq_true] at h ⊢
        obtain ⟨v', hv', h⟩ := h
        refine ⟨v', hv'.of_same (by rw [ej]), ?_⟩
        rw [wi, if_pos hwi]
        exact ⟨v, hv.of_same (by rw [ei]), by rw [← Act.put_comm a v v' h2]; exact h⟩
  · simp only [hwi, hwj, if_true, if_false, Bool.false_eq_true] at h ⊢
    rw [wi, if_pos hwi]
    by_cases li : loud oi = true
    · simp only [li, if_true] at h ⊢
      refine wp_unput (ops := ops) hsi h3 h2' (Oper.wp_mono (fun a' w' hk => ?_) h)
      rintro ⟨u, ds, ha'⟩
      subst ha'
      obtain ⟨hf, hk⟩ := hk
      rw [wj, if_neg (by exact hwj)] at hk
      exact ⟨hf, hk⟩
    · simp only [li, if_false, Bool.false_eq_true] at h ⊢
      obtain ⟨v, hv, h⟩ := h
      rw [wj, if_neg hwj] at h
      exact ⟨v, hv.of_same (by rw [ei]), by rw [← Act.put_comm a v undef h2]; exact h⟩
  · simp only [hwi, hwj, if_true, if_false, Bool.false_eq_true] at h ⊢
    rw [wj, if_pos hwj] at h
    by_cases lj : loud oj = true
    · simp only [lj, if_true] at h ⊢
      refine Oper.wp_mono (fun a' w' hk => ?_) (wp_put (ops := ops) hsj h1 h2 h)
      obtain ⟨⟨hf, hk⟩, u, ds, ha'⟩ := hk
      subst ha'
      refine ⟨hf, ?_⟩
      rw [wi, if_neg (by exact hwi)]
      exact hk
    · simp only [lj, if_false, Bool.false_eq_true] at h ⊢
      obtain ⟨v, hv, h⟩ := h
      refine ⟨v, hv.of_same (by rw [ej]), ?_⟩
      rw [wi, if_neg hwi, ← Act.put_comm a undef v h2]; exact h
  · simp only [hwi, hwj, if_false, Bool.false_eq_true] at h ⊢
    rw [wj, if_neg hwj] at h
    rw [wi, if_neg hwi, ← Act.put_comm a undef undef h2]
    exact h

/-- Whatever order is picked from here on. -/
def Need (ops : Array Oper) (rd : Oper → Bool) (listed : Array Bool) : Prop := ∃ k ok, ops[k]? = some ok ∧ rd ok = true ∧ listed.getD k true = false

theorem Need.cls {listed : Array Bool} {w : World} (h : Need ops rd listed → C w) {i : Nat} {o : Oper} (hi : ops[i]? = some o) (hu : listed.getD i true = false) : Cls C (rd o) w := by
  unfold Cls
  split
  · rename_i hr; exact h ⟨i, o, hi, hr, hu⟩
  · trivial

def wpAnyM (P : Program) (ops : Array Oper) (C : World → Prop) (loud rd : Oper → Bool) (fin : Nat → Bool) (Q : Exit → Act → World → Prop) : Nat → Array Bool → Act → World → Prop
  | 0, listed, a, w => Region.ready .any ops listed = [] ∧ Q .normal a w
  | fuel + 1, listed, a, w => (Need ops rd listed → C w) ∧ (Region.ready .any ops listed = [] → Q .normal a w) ∧
    ∀ i ∈ Region.ready .any ops listed, mOp P ops C loud rd fin i (wpAnyM P ops C loud rd fin Q fuel (listed.setIfInBounds i true)) a w

theorem wpOp_of_mOp {i : Nat} {a : Act} {w : World} {K : Act → World → Prop} (hC : ∀ o, ops[i]? = some o → Cls C (rd o) w) (h : mOp P ops C loud rd fin i K a w) : wpOp P ops Q i K a w := by
  unfold mOp at h
  unfold wpOp
  split
  · simpa [*] using h
  · rename_i o ho
    simp only [ho] at h
    split
    · rename_i hw
      simp only [hw, if_true] at h
      left
      split at h
      · exact Oper.wp_mono (fun _ _ hk => hk.2) (QF_wp h)
      · obtain ⟨v, hv, h⟩ := h
        simp only [Oper.wp, hv w (hC o ho), Oper.upon]; exact h
    · rename_i hw; simp only [hw] at h; exact h

theorem wpAny_of_M : ∀ (fuel : Nat) (listed : Array Bool) (a : Act) (w : World), wpAnyM P ops C loud rd fin Q fuel listed a w → wpAny P .any ops Q fuel listed a w
  | 0, _, _, _, h => h
  | fuel + 1, listed, a, w, h => ⟨h.2.1, fun i hi => wpOp_mono (fun a w h => wpAny_of_M fuel _ a w h) (wpOp_of_mOp (fun o ho => Need.cls h.1 ho (mem_ready.1 hi).1) (h.2.2 i hi))⟩

/-- j waits for i: a table of bits that the edges bear out. -/
def Waits (ops : Array Oper) (W : Nat → Nat → Bool) : Prop :=
  ∀ j oj, ops[j]? = some oj → (∀ e ∈ oj.after, Region.binds .any e = true → e.on < j) ∧
    ∀ i, W j i = true → ∃ e ∈ oj.after, Region.binds .any e = true ∧ (e.on = i ∨ W e.on i = true)

def Down (ops : Array Oper) (listed : Array Bool) : Prop := ∀ j oj, ops[j]? = some oj → listed.getD j true = true → ∀ e ∈ oj.after, Region.binds .any e = true → listed.getD e.on false = true

theorem getD_ft {listed : Array Bool} {k : Nat} (h : listed.getD k false = true) : listed.getD k true = true := by
  rcases Nat.lt_or_ge k listed.size with h' | h'
  · simp [h'] at h ⊢; exact h
  · simp [Array.getElem?_eq_none h'] at h

theorem not_waits {W : Nat → Nat → Bool} (hW : Waits ops W) {listed : Array Bool} (hD : Down ops listed) {i : Nat} (hi : listed.getD i true = false) :
    ∀ n j oj, j < n → ops[j]? = some oj → (∀ e ∈ oj.after, Region.binds .any e = true → listed.getD e.on false = true) → W j i = false := by
  intro n
  induction n with
  | zero => intro j _ h; omega
  | succ n ih =>
    intro j oj hjn hoj hall
    cases hw : W j i with
    | false => rfl
    | true =>
      obtain ⟨hb, hx⟩ := hW j oj hoj
      obtain ⟨e, he, hbe, hor⟩ := hx i hw
      have hl := hall e he hbe
      rcases hor with h | h
      · rw [h] at hl; have := getD_ft hl; rw [hi] at this; cases this
      · have hlt := hb e he hbe
        have hsz : j < ops.size := (Array.getElem?_eq_some_iff.1 hoj).1
        have hoe : ops[e.on]? = some ops[e.on] := Array.getElem?_eq_getElem (by omega)
        have := ih e.on _ (by omega) hoe (hD e.on _ hoe (getD_ft hl))
        rw [h] at this; cases this

theorem Down.set {listed : Array Bool} (hD : Down ops listed) {j : Nat} (hj : j ∈ Region.ready .any ops listed) : Down ops (listed.setIfInBounds j true) := by
  intro k ok hk hl e he hb
  by_cases hjk : j = k
  · subst hjk
    obtain ⟨_, o, ho, hall⟩ := mem_ready.1 hj
    rw [hk] at ho; cases ho
    exact getD_set_true (hall e he hb)
  · rw [getD_set_ne true hjk] at hl
    exact getD_set_true (hD k ok hk hl e he hb)

/-- Behind an operation the world is one of the class, as long as that is needed. -/
theorem mOp_class {j : Nat} {a : Act} {w : World} {K : Act → World → Prop} {N : Prop} (hC : N → C w) (hf : fin j = true → N → False) (h : mOp P ops C loud rd fin j K a w) : mOp P ops C loud rd fin j (fun a' w' => (N → C w') ∧ K a' w') a w := by
  unfold mOp at *
  split
  · exact ⟨hC, by simpa [*] using h⟩
  · rename_i o ho
    simp only [ho] at h
    split
    · rename_i hw
      simp only [hw, if_true] at h
      split
      · rename_i hl
        simp only [hl, if_true] at h
        exact Oper.wp_mono (fun a w hk => ⟨hk.1, fun hn => hk.1.resolve_left (fun e => hf e hn), hk.2⟩) h
      · rename_i hl
        simp only [hl] at h
        exact let ⟨v, h1, h2⟩ := h; ⟨v, h1, hC, h2⟩
    · rename_i hw; simp only [hw] at h; exact ⟨hC, h⟩

theorem first {W : Nat → Nat → Bool} (hW : Waits ops W) (hfin : ∀ j, fin j = true → ∀ k ok, ops[k]? = some ok → rd ok = true → k ≠ j → W j k = true) {i : Nat} {oi : Oper} (hi : ops[i]? = some oi) (hsel : ∀ (j : Nat) (o : Oper) cs b, ops[j]? = some o → o.op ≠ .select cs b) :
    ∀ (fuel : Nat) (listed : Array Bool) (a : Act) (w : World), (Need ops rd listed → C w) → Down ops listed →
      (∀ j oj, ops[j]? = some oj → j ≠ i → listed.getD j true = false → W j i = false → oi.apart ops oj = true ∧ (loud oi && loud oj) = false) →
      i ∈ Region.ready .any ops listed →
      mOp P ops C loud rd fin i (wpAnyM P ops C loud rd fin Q fuel (listed.setIfInBounds i true)) a w → wpAnyM P ops C loud rd fin Q (fuel + 1) listed a w := by
  intro fuel
  induction fuel with
  | zero =>
    intro listed a w hC hD hfree hr H
    refine ⟨hC, fun h => (by rw [h] at hr; cases hr), fun j hj => ?_⟩
    by_cases hji : j = i
    · subst hji; exact H
    · exfalso
      have hrd := ready_mono hj hji
      -- the only outcome of i leaves nothing ready
      have hno : ∃ a' w', wpAnyM P ops C loud rd fin Q 0 (listed.setIfInBounds i true) a' w' := by
        unfold mOp at H
        simp only [hi] at H
        split at H
        · split at H
          · obtain ⟨a', w', h, _⟩ := wp_some H; exact ⟨a', w', h.2⟩
          · obtain ⟨v, _, h⟩ := H; exact ⟨_, _, h⟩
        · exact ⟨_, _, H⟩
      obtain ⟨a', w', h0, _⟩ := hno
      rw [h0] at hrd; cases hrd
  | succ fuel ih =>
    intro listed a w hC hD hfree hr H
    refine ⟨hC, fun h => (by rw [h] at hr; cases hr), fun j hj => ?_⟩
    by_cases hji : j = i
    · subst hji; exact H
    · obtain ⟨hjun, oj, hoj, hall⟩ := mem_ready.1 hj
      have hjr := ready_mono hj hji
      have hwait := not_waits hW hD (mem_ready.1 hr).1 (j + 1) j oj (by omega) hoj hall
      obtain ⟨hap, hl⟩ := hfree j oj hoj hji hjun hwait
      have h1 : mOp P ops C loud rd fin i (mOp P ops C loud rd fin j (wpAnyM P ops C loud rd fin Q fuel ((listed.setIfInBounds i true).setIfInBounds j true))) a w :=
        mOp_mono (fun a' w' h => h.2.2 j hjr) H
      have h2 := mOp_comm hi hoj hap hl (fun cs b => hsel i oi cs b hi) (fun cs b => hsel j oj cs b hoj) (Need.cls hC hoj hjun) h1
      have hD' := hD.set hj
      have hir := ready_mono hr (Ne.symm hji)
      have hfree' : ∀ k ok, ops[k]? = some ok → k ≠ i → (listed.setIfInBounds j true).getD k true = false → W k i = false → oi.apart ops ok = true ∧ (loud oi && loud ok) = false := fun k ok hk hki hun hno => by
        refine hfree k ok hk hki ?_ hno
        by_cases hjk : j = k
        · subst hjk; exact hjun
        · rw [getD_set_ne true hjk] at hun; exact hun
      rw [Array.setIfInBounds_comm _ _ (Ne.symm hji)] at h2
      have hneed : Need ops rd (listed.setIfInBounds j true) → Need ops rd listed := fun ⟨k, ok, hk, hr, hu⟩ => by
        refine ⟨k, ok, hk, hr, ?_⟩
        by_cases hjk : j = k
        · subst hjk; exact hjun
        · rwa [getD_set_ne true hjk] at hu
      have h3 := mOp_class (N := Need ops rd (listed.setIfInBounds j true)) (fun hn => hC (hneed hn)) (fun hf ⟨k, ok, hk, hr, hu⟩ => by
        by_cases hjk : j = k
        · subst hjk
          rcases Nat.lt_or_ge j listed.size with h' | h'
          · rw [Array.getD_eq_getD_getElem?, Array.getElem?_setIfInBounds_self_of_lt h'] at hu; simp at hu
          · rw [Array.getD_eq_getD_getElem?, Array.getElem?_eq_none (by simpa using h')] at hu; simp at hu
        · have hu' : listed.getD k true = false := by rwa [getD_set_ne true hjk] at hu
          have hw1 := hfin j hf k ok hk hr (Ne.symm hjk)
          have hw2 := not_waits hW hD hu' (j + 1) j oj (by omega) hoj hall
          rw [hw1] at hw2; cases hw2) h2
      exact mOp_mono (fun a' w' h => ih _ a' w' h.1 hD' hfree' hir h.2) h3

/-- The lexical walk. -/
def wpMix (P : Program) (ops : Array Oper) (C : World → Prop) (loud rd : Oper → Bool) (f : Nat) (Q : Exit → Act → World → Prop) : List Oper → Act → World → Prop
  | [], a, w => Q .normal a w
  | o :: rest, a, w =>
    if Region.wanted o (yielded ops a.tmps) then
      if loud o then o.wp P a w (fun a' w' => (rest.length < f ∨ C w') ∧ wpMix P ops C loud rd f Q rest a' w') QF
      else ∃ v, Calm P (Cls C (rd o)) o a v ∧ wpMix P ops C loud rd f Q rest (a.put o.dst v) w
    else wpMix P ops C loud rd f Q rest (a.put o.dst undef) w

def waitsB (n : Nat) (b : Array Nat) (j i : Nat) : Bool := decide (i < n) && (b.getD j 0).testBit i

/-- What is asked of the region's text, by the kernel's own run. -/
def mixOK (loud rd : Oper → Bool) (f : Nat) (ops : Array Oper) : Bool :=
  Region.noSelect ops &&
  (let b := Region.before ops
   (List.range ops.size).all fun j =>
    match ops[j]? with
    | none => false
    | some oj =>
      (oj.after.toList.all fun e => !Region.binds .any e || decide (e.on < j)) &&
      ((List.range ops.size).all fun i =>
        (!waitsB ops.size b j i || (oj.after.toList.any fun e => Region.binds .any e && (e.on == i || waitsB ops.size b e.on i))) &&
        (!decide (i < j) || waitsB ops.size b j i || (match ops[i]? with | none => false | some oi => oi.apart ops oj && !(loud oi && loud oj))) &&
        (!decide (ops.size < f + (j + 1)) || !loud oj || i == j || !(match ops[i]? with | none => false | some oi => rd oi) || waitsB ops.size b j i)))

theorem mix_any {W : Nat → Nat → Bool} (hW : Waits ops W) (hs : Region.noSelect ops = true) {f : Nat} (hback : ∀ i j oi oj, ops[i]? = some oi → ops[j]? = some oj → i < j → W j i = false → oi.apart ops oj = true ∧ (loud oi && loud oj) = false)
    (hfin : ∀ j oj, ops[j]? = some oj → loud oj = true → ops.size < f + (j + 1) → ∀ k ok, ops[k]? = some ok → rd ok = true → k ≠ j → W j k = true) :
    ∀ (l : List Oper) (k : Nat) (listed : Array Bool) (a : Act) (w : World), (∀ j, l[j]? = ops[k + j]?) → k + l.length = ops.size → listed.size = ops.size → (∀ j, j < ops.size → listed.getD j true = decide (j < k)) → (Need ops rd listed → C w) →
      wpMix P ops C loud rd f Q l a w → wpAnyM P ops C loud rd (fun j => decide (ops.size < f + (j + 1)) && ((ops[j]?).map loud).getD false) Q l.length listed a w
  | [], k, listed, a, w, hl, hk, hsz, hls, hC, h => by
    refine ⟨?_, h⟩
    rw [List.eq_nil_iff_forall_not_mem]
    intro j hj
    obtain ⟨hun, o, ho, _⟩ := mem_ready.1 hj
    have := (Array.getElem?_eq_some_iff.1 ho).1
    rw [hls j this] at hun
    simp at hk hun
    omega
  | o :: l, k, listed, a, w, hl, hk, hsz, hls, hC, h => by
    have h0 : ops[k]? = some o := by simpa using (hl 0).symm
    simp only [List.length_cons] at hk ⊢
    have hk' : k < ops.size := by omega
    have hD : Down ops listed := by
      intro j oj hoj hlj e he hb
      have hj := (Array.getElem?_eq_some_iff.1 hoj).1
      rw [hls j hj] at hlj
      have hlt := (hW j oj hoj).1 e he hb
      have h2 := hls e.on (by omega)
      have : listed.getD e.on true = true := by rw [h2]; simp at hlj ⊢; omega
      rw [Array.getD_eq_getD_getElem?] at this ⊢
      rw [Array.getElem?_eq_getElem (by omega)] at this ⊢
      simpa using this
    have hl' : ∀ j, l[j]? = ops[k + 1 + j]? := fun j => by have := hl (j + 1); simpa [Nat.add_assoc, Nat.add_comm 1 j] using this
    have hls' : ∀ j, j < ops.size → (listed.setIfInBounds k true).getD j true = decide (j < k + 1) := by
      intro j hj
      by_cases hjk : k = j
      · subst hjk
        rw [Array.getD_eq_getD_getElem?, Array.getElem?_setIfInBounds_self_of_lt (by omega)]
        simp
      · rw [getD_set_ne true hjk, hls j hj]
        simp; omega
    have hdeps : ∀ e ∈ o.after, Region.binds .any e = true → listed.getD e.on false = true := fun e he hb => by
      have hlt := (hW k o h0).1 e he hb
      have h2 := hls e.on (by omega)
      have : listed.getD e.on true = true := by rw [h2]; simp; omega
      rw [Array.getD_eq_getD_getElem?] at this ⊢
      rw [Array.getElem?_eq_getElem (by omega)] at this ⊢
      simpa using this
    have hneed : Need ops rd (listed.setIfInBounds k true) → Need ops rd listed := fun ⟨m, om, hm, hr, hu⟩ => by
      refine ⟨m, om, hm, hr, ?_⟩
      by_cases hjk : k = m
      · subst hjk; rw [hls k hk']; simp
      · rwa [getD_set_ne true hjk] at hu
    refine first (W := W) hW ?_ h0 (Region.noSelect_spec hs) l.length listed a w hC hD ?_ ?_ ?_
    · intro j hj m om hm hr hij
      simp only [Bool.and_eq_true, decide_eq_true_eq] at hj
      cases hoj : ops[j]? with
      | none => rw [hoj] at hj; simp at hj
      | some oj => rw [hoj] at hj; exact hfin j oj hoj (by simpa using hj.2) hj.1 m om hm hr hij
    · intro j oj hoj hjk hun hw
      have hj := (Array.getElem?_eq_some_iff.1 hoj).1
      rw [hls j hj] at hun
      simp at hun
      exact hback k j o oj h0 hoj (by omega) hw
    · exact mem_ready.2 ⟨by rw [hls k hk']; simp, o, h0, hdeps⟩
    · have ih := fun a w hC h => mix_any hW hs hback hfin l (k + 1) (listed.setIfInBounds k true) a w hl' (by omega) (by simpa using hsz) hls' hC h
      unfold mOp
      simp only [h0]
      unfold wpMix at h
      split
      · rename_i hw
        simp only [hw, if_true] at h
        split
        · rename_i hlo
          simp only [hlo, if_true] at h
          refine Oper.wp_mono (fun a' w' hk2 => ?_) h
          rcases hk2.1 with hr | hC'
          · have hf : ops.size < f + (k + 1) := by omega
            refine ⟨.inl (by simp [hf, hlo]), ih a' w' (fun ⟨m, om, hm, hr, hu⟩ => ?_) hk2.2⟩
            exfalso
            have hmk : m ≠ k := fun e => by
              subst e
              rw [Array.getD_eq_getD_getElem?, Array.getElem?_setIfInBounds_self_of_lt (by omega)] at hu
              simp at hu
            have hu' : listed.getD m true = false := by rwa [getD_set_ne true (Ne.symm hmk)] at hu
            have h1 := hfin k o h0 hlo hf m om hm hr hmk
            have h2 := not_waits hW hD hu' (k + 1) k o (by omega) h0 hdeps
            rw [h1] at h2; cases h2
          · exact ⟨.inr hC', ih a' w' (fun _ => hC') hk2.2⟩
        · rename_i hlo
          simp only [hlo] at h
          obtain ⟨v, hv, h⟩ := h
          exact ⟨v, hv, ih _ _ (fun hn => hC (hneed hn)) h⟩
      · rename_i hw
        simp only [hw] at h
        exact ih _ _ (fun hn => hC (hneed hn)) h

/-- ONE WALK OF THE LEXICAL ORDER SERVES EVERY ORDER. The last f operations come behind all that reads. -/
theorem wp_region_mix {id : Nat} {a : Act} {w : World} (f : Nat) (hm : P.follows .mixedOrders = true) (hB : mixOK loud rd f ops = true) (hC : C { w with drawn := w.drawn + 1 })
    (h : wpMix P ops C loud rd f Q ops.toList a { w with drawn := w.drawn + 1 }) : (Code.region id ops true).wp P Q a w := by
  simp only [mixOK, Bool.and_eq_true, List.all_eq_true, List.mem_range] at hB
  obtain ⟨hs, hB⟩ := hB
  have hW : Waits ops (waitsB ops.size (Region.before ops)) := by
    intro j oj hoj
    have hj := (Array.getElem?_eq_some_iff.1 hoj).1
    have h := hB j hj
    rw [hoj] at h
    simp only [Bool.and_eq_true, List.all_eq_true, List.mem_range] at h
    refine ⟨fun e he hb => ?_, fun i hi => ?_⟩
    · have := h.1 e (by simpa using he)
      simpa [hb] using this
    · have hisz : i < ops.size := by
        simp only [waitsB, Bool.and_eq_true, decide_eq_true_eq] at hi; exact hi.1
      have := (h.2 i hisz).1.1
      rw [hi] at this
      simp only [Bool.not_true, Bool.false_or, List.any_eq_true, Bool.and_eq_true, Bool.or_eq_true, beq_iff_eq] at this
      obtain ⟨e, he, h1, h2⟩ := this
      exact ⟨e, by simpa using he, h1, h2⟩
  refine wp_region_any hm (wpAny_of_M (C := C) (loud := loud) (rd := rd) (fin := fun j => decide (ops.size < f + (j + 1)) && ((ops[j]?).map loud).getD false) _ _ _ _ ?_)
  have := mix_any (P := P) (ops := ops) (C := C) (Q := Q) (loud := loud) (rd := rd) hW hs (f := f) ?_ ?_ ops.toList 0 (Array.replicate ops.size false) a _ (by simp) (by simp) (by simp) (by intro j hj; simp [hj]) (fun _ => hC) h
  · simpa using this
  · intro i j oi oj hi hj hij hw
    have hj' := (Array.getElem?_eq_some_iff.1 hj).1
    have hi' := (Array.getElem?_eq_some_iff.1 hi).1
    have h := hB j hj'
    rw [hj] at h
    simp only [Bool.and_eq_true, List.all_eq_true, List.mem_range] at h
    have := (h.2 i hi').1.2
    rw [hw, hi] at this
    simp only [hij, decide_true, Bool.not_true, Bool.false_or, Bool.and_eq_true, Bool.not_eq_true'] at this
    exact this
  · intro j oj hj hlo hf k ok hk hr hkj
    have hj' := (Array.getElem?_eq_some_iff.1 hj).1
    have hk' := (Array.getElem?_eq_some_iff.1 hk).1
    have h := hB j hj'
    rw [hj] at h
    simp only [Bool.and_eq_true, List.all_eq_true, List.mem_range] at h
    have := (h.2 k hk').2
    rw [hk] at this
    simpa [hf, hlo, hr, hkj] using this
end

/-- What may come up at any time: it reads, or reckons. -/
def loudOp (o : Oper) : Bool := match o.op with
  | .move _ | .assign _ | .pick .. | .load .. | .binOp .. | .unOp .. | .fieldAddr .. | .field .. | .indexAddr .. | .index .. | .extract .. | .build .. | .nilCheck _ | .slice .. | .makeFunc .. | .convert .. => false
  | .call { callee := .builtin .len, .. } | .call { callee := .builtin .max, .. } | .call { callee := .builtin .min, .. } => false
  | _ => true
/-- What reads the world. -/
def readOp (o : Oper) : Bool := match o.op with | .load .. => true | _ => false
end Go.Proofs.Sh
/- Regions that draw their order, on shadows. -/
namespace Go.Proofs.Sh
open Go.RowKit

section
variable {P : Program}

/-- what an operation that only reckons yields depends on its operands alone -/
theorem aop_pure {s : ASt} {o : Oper} {v : AV} {h' : List Blk} (hl : loudOp o = false) (hr : readOp o = false) (e : aop P s o = .val v h') :
    h' = s.h ∧ ∀ (X μ : List Nat) (s0 : ASt) (a : Act) (w : World), SimF X μ s0 a w → (∀ x ∈ o.op.operands.toList, s0.eval x = s.eval x) → ∃ u, PureV P o a u ∧ AV.rep (X ++ alive μ s0.h) μ w v u := by
  unfold aop at e
  split at e
  · rename_i x ho; obtain ⟨e1, rfl⟩ := ares_val e
    exact ⟨rfl, fun X μ s0 a w hF hq => pure_move ho hF ((hq x (by simp [ho, Op.operands])).trans e1)⟩
  · rename_i x ho; obtain ⟨e1, rfl⟩ := ares_val e
    exact ⟨rfl, fun X μ s0 a w hF hq => pure_assign ho hF ((hq x (by simp [ho, Op.operands])).trans e1)⟩
  · rename_i c x y ho
    split at e
    · rename_i b v1 v2 h1 h2 h3
      injection e with e1 e2; subst e1 e2
      exact ⟨rfl, fun X μ s0 a w hF hq => pure_pick ho hF ((hq c (by simp [ho, Op.operands])).trans h1) ((hq x (by simp [ho, Op.operands])).trans h2) ((hq y (by simp [ho, Op.operands])).trans h3)⟩
    · cases e
  · rename_i t ho; simp [loudOp, ho] at hl
  · rename_i t x ho; simp [loudOp, ho] at hl
  · rename_i t parts ho; obtain ⟨e1, rfl⟩ := ares_val e
    refine ⟨rfl, fun X μ s0 a w hF hq => op_build ho hF ?_⟩
    rw [← e1]
    congr 1
    refine List.map_congr_left fun p hp => ?_
    rw [hq p.2 (by simp only [ho, Op.operands]; simp; exact ⟨p.1, by simpa using hp⟩)]
  · rename_i t len parts ho; simp [loudOp, ho] at hl
  · rename_i t x ho; simp [readOp, ho] at hr
  · rename_i t x y ho; simp [loudOp, ho] at hl
  · rename_i x ho
    split at e
    · rename_i hx; injection e with e1 e2; subst e1 e2; exact ⟨rfl, fun X μ s0 a w hF hq => pure_nilCheck ho hF ((hq x (by simp [ho, Op.operands])).trans hx) rfl⟩
    · rename_i hx; injection e with e1 e2; subst e1 e2; exact ⟨rfl, fun X μ s0 a w hF hq => pure_nilCheck ho hF ((hq x (by simp [ho, Op.operands])).trans hx) rfl⟩
    · rename_i hx; injection e with e1 e2; subst e1 e2; exact ⟨rfl, fun X μ s0 a w hF hq => pure_nilCheck ho hF ((hq x (by simp [ho, Op.operands])).trans hx) rfl⟩
    · cases e
  · rename_i op t x y t' ho
    obtain ⟨u1, u2, h1, h2, h3, rfl⟩ := ares2_val e
    exact ⟨rfl, fun X μ s0 a w hF hq => pure_bin ho hF ((hq x (by simp [ho, Op.operands])).trans h1) ((hq y (by simp [ho, Op.operands])).trans h2) h3⟩
  · rename_i op t x ho
    obtain ⟨u1, h1, h3, rfl⟩ := ares1_val e
    exact ⟨rfl, fun X μ s0 a w hF hq => pure_un ho hF ((hq x (by simp [ho, Op.operands])).trans h1) h3⟩
  · rename_i t t' x ho
    split at e
    · rename_i k' n k hx ht'
      split at e
      · rename_i ht; injection e with e1 e2; subst e1 e2; exact ⟨rfl, fun X μ s0 a w hF hq => pure_conv ho hF ((hq x (by simp [ho, Op.operands])).trans hx) ht ht'⟩
      · cases e
    · cases e
  · rename_i f first cs ho
    split at e
    · rename_i hf
      split at e
      · rename_i cc hcc; injection e with e1 e2; subst e1 e2
        refine ⟨rfl, fun X μ s0 a w hF hq => pure_makeFunc ho hF hf ?_⟩
        rw [← hcc]
        congr 1
        refine List.map_congr_left fun p hp => ?_
        rw [hq p (by simp only [ho, Op.operands]; simp; exact .inr (by simpa using hp))]
      · cases e
    · cases e
  · rename_i t l c ho; simp [loudOp, ho] at hl
  · rename_i t x lo hi ho
    obtain ⟨u1, h1, h3, rfl⟩ := ares1_val e
    refine ⟨rfl, fun X μ s0 a w hF hq => pure_slice ho hF ((hq x (by simp [ho, Op.operands])).trans h1) ?_⟩
    rw [← h3]
    congr 1
    · cases lo with
      | none => rfl
      | some o1 => simp only [Option.map_some]; rw [hq o1 (by simp [ho, Op.operands])]
    · cases hi with
      | none => rfl
      | some o1 => simp only [Option.map_some]; rw [hq o1 (by simp [ho, Op.operands])]
  · rename_i t x f ho
    obtain ⟨u1, h1, h3, rfl⟩ := ares1_val e
    exact ⟨rfl, fun X μ s0 a w hF hq => pure_fieldAddr ho hF ((hq x (by simp [ho, Op.operands])).trans h1) h3⟩
  · rename_i t x f ho
    obtain ⟨u1, h1, h3, rfl⟩ := ares1_val e
    exact ⟨rfl, fun X μ s0 a w hF hq => pure_field ho hF ((hq x (by simp [ho, Op.operands])).trans h1) h3⟩
  · rename_i t x i ho
    obtain ⟨u1, u2, h1, h2, h3, rfl⟩ := ares2_val e
    exact ⟨rfl, fun X μ s0 a w hF hq => pure_indexAddr ho hF ((hq x (by simp [ho, Op.operands])).trans h1) ((hq i (by simp [ho, Op.operands])).trans h2) h3⟩
  · rename_i x k ho
    split at e
    · rename_i vs hx; obtain ⟨e1, rfl⟩ := ares_val e
      exact ⟨rfl, fun X μ s0 a w hF hq => pure_extract ho hF ((hq x (by simp [ho, Op.operands])).trans hx) e1⟩
    · cases e
  · rename_i t x i ho
    obtain ⟨u1, u2, h1, h2, h3, rfl⟩ := ares2_val e
    exact ⟨rfl, fun X μ s0 a w hF hq => pure_index ho hF ((hq x (by simp [ho, Op.operands])).trans h1) ((hq i (by simp [ho, Op.operands])).trans h2) h3⟩
  · rename_i b args ts ho
    unfold abuiltin at e
    split at e
    · rename_i x t ha ht
      obtain ⟨u1, h1, h3, rfl⟩ := ares1_val e
      have ha' : args = #[x] := by rw [← Array.toArray_toList (xs := args), ha]
      have ht' : ts = #[t] := by rw [← Array.toArray_toList (xs := ts), ht]
      subst ha' ht'
      exact ⟨rfl, fun X μ s0 a w hF hq => pure_len ho hF ((hq x (by simp [ho, Op.operands, Call.operands])).trans h1) h3⟩
    · rename_i x y t t' ha ht
      obtain ⟨u1, u2, h1, h2, h3, rfl⟩ := ares2_val e
      have ha' : args = #[x, y] := by rw [← Array.toArray_toList (xs := args), ha]
      subst ha'
      exact ⟨rfl, fun X μ s0 a w hF hq => pure_max ho hF ((hq x (by simp [ho, Op.operands, Call.operands])).trans h1) ((hq y (by simp [ho, Op.operands, Call.operands])).trans h2) h3⟩
    · simp [loudOp, ho] at hl
    · cases e
  · exact absurd e call_ne_val
  · cases e
end
end Go.Proofs.Sh
