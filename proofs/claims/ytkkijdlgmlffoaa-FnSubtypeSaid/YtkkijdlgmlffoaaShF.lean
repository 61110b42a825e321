/- Taking back what a call has left. -/
import Derived.Test.YtkkijdlgmlffoaaShE
namespace Go.Proofs.Sh
open Go.RowKit

mutual
def C.ren (f : Nat → Nat) : C → C
  | .ptr s b i j => .ptr s (f b) i j
  | .row s b n => .row s (f b) n
  | .fn g caps => .fn g (C.renL f caps)
  | .top => .top
  | .sc v => .sc v
  | .sl rows => .sl rows
  | .cur cs j => .cur cs j
def C.renL (f : Nat → Nat) : List C → List C
  | [] => []
  | c :: cs => C.ren f c :: C.renL f cs
end
def renA (f : Nat → Nat) (cs : List C) : List C := if treeL cs then cs else C.renL f cs
def renRows (f : Nat → Nat) (rows : List (List C)) : List (List C) := if treeRows rows then rows else rows.map (renA f)
mutual
def AV.ren (f : Nat → Nat) : AV → AV
  | .one c => .one (C.ren f c)
  | .agg cs => .agg (renA f cs)
  | .tup vs => .tup (AV.renL f vs)
def AV.renL (f : Nat → Nat) : List AV → List AV
  | [] => []
  | v :: vs => AV.ren f v :: AV.renL f vs
end
def Blk.ren (f : Nat → Nat) (k : Blk) : Blk := ⟨k.s, k.ty, k.st, renRows f k.rows⟩

mutual
theorem C.rep_ren {L L' μ μ' : List Nat} {w : World} {f : Nat → Nat} (hL : ∀ x, x ∈ L' → x ∈ L) (hf : ∀ (b g : Nat), μ[b]? = some g → μ'[f b]? = some g) : ∀ {c : C} {u : Value}, C.rep L μ w c u → C.rep L' μ' w (c.ren f) u
  | .ptr s b i j, u, h => by
    simp only [C.ren, C.rep] at h ⊢
    obtain ⟨g, h1, h2⟩ := h
    exact ⟨g, hf b g h1, h2⟩
  | .row s b n, u, h => by
    simp only [C.ren, C.rep] at h ⊢
    obtain ⟨g, cap, h1, h2⟩ := h
    exact ⟨g, cap, hf b g h1, h2⟩
  | .fn g caps, u, h => by
    simp only [C.ren, C.rep] at h ⊢
    obtain ⟨arr, h1, h2⟩ := h
    exact ⟨arr, h1, C.repl_ren hL hf h2⟩
  | .top, u, h => by simpa [C.ren, C.rep] using h
  | .sc v, u, h => by simpa [C.ren, C.rep] using h
  | .sl rows, u, h => by
    have := C.rep.sub hL h
    simp only [C.ren, C.rep] at this ⊢; exact this
  | .cur cs j, u, h => by
    have := C.rep.sub hL h
    simp only [C.ren, C.rep] at this ⊢; exact this
theorem C.repl_ren {L L' μ μ' : List Nat} {w : World} {f : Nat → Nat} (hL : ∀ x, x ∈ L' → x ∈ L) (hf : ∀ (b g : Nat), μ[b]? = some g → μ'[f b]? = some g) : ∀ {cs : List C} {us : List Value}, C.repl L μ w cs us → C.repl L' μ' w (C.renL f cs) us
  | [], us, h => by simpa [C.renL, C.repl] using h
  | c :: cs, us, h => by
    simp only [C.renL, C.repl] at h ⊢
    obtain ⟨u, us', h1, h2, h3⟩ := h
    exact ⟨u, us', h1, C.rep_ren hL hf h2, C.repl_ren hL hf h3⟩
end
theorem repl_renA {L L' μ μ' : List Nat} {w : World} {f : Nat → Nat} (hL : ∀ x, x ∈ L' → x ∈ L) (hf : ∀ (b g : Nat), μ[b]? = some g → μ'[f b]? = some g) {cs : List C} {us : List Value} (h : C.repl L μ w cs us) : C.repl L' μ' w (renA f cs) us := by
  unfold renA
  split
  · rename_i ht
    exact C.repl.carry (K := []) ⟨Keep.refl _ _, fun _ _ _ => by simp, fun x _ hx hm => hx (hL x hm), fun _ _ h => by simp at h⟩ (C.repl_tree ht h)
  · exact C.repl_ren hL hf h
mutual
theorem AV.rep_ren {L L' μ μ' : List Nat} {w : World} {f : Nat → Nat} (hL : ∀ x, x ∈ L' → x ∈ L) (hf : ∀ (b g : Nat), μ[b]? = some g → μ'[f b]? = some g) : ∀ {v : AV} {u : Value}, AV.rep L μ w v u → AV.rep L' μ' w (v.ren f) u
  | .one c, u, h => by simp only [AV.ren, AV.rep] at h ⊢; exact C.rep_ren hL hf h
  | .agg cs, u, h => by
    simp only [AV.ren, AV.rep] at h ⊢
    obtain ⟨arr, h1, h2⟩ := h
    exact ⟨arr, h1, repl_renA hL hf h2⟩
  | .tup vs, u, h => by
    simp only [AV.ren, AV.rep] at h ⊢
    obtain ⟨arr, h1, h2⟩ := h
    exact ⟨arr, h1, AV.repl_ren hL hf h2⟩
theorem AV.repl_ren {L L' μ μ' : List Nat} {w : World} {f : Nat → Nat} (hL : ∀ x, x ∈ L' → x ∈ L) (hf : ∀ (b g : Nat), μ[b]? = some g → μ'[f b]? = some g) : ∀ {vs : List AV} {us : List Value}, AV.repl L μ w vs us → AV.repl L' μ' w (AV.renL f vs) us
  | [], us, h => by simpa [AV.renL, AV.repl] using h
  | v :: vs, us, h => by
    simp only [AV.renL, AV.repl] at h ⊢
    obtain ⟨u, us', h1, h2, h3⟩ := h
    exact ⟨u, us', h1, AV.rep_ren hL hf h2, AV.repl_ren hL hf h3⟩
end
theorem C.renL_length (f : Nat → Nat) : ∀ cs : List C, (C.renL f cs).length = cs.length
  | [] => rfl
  | c :: cs => by simp [C.renL, C.renL_length f cs]
theorem C.renL_get (f : Nat → Nat) : ∀ (cs : List C) (j : Nat), (C.renL f cs)[j]? = (cs[j]?).map (C.ren f)
  | [], j => by simp [C.renL]
  | c :: cs, 0 => by simp [C.renL]
  | c :: cs, j + 1 => by simp [C.renL, C.renL_get f cs j]
theorem C.ren_tree {f : Nat → Nat} {c : C} (h : c.tree = true) : c.ren f = c := by
  cases c <;> first | rfl | (simp [C.tree] at h; done)

theorem Laid.ren {L L' μ μ' : List Nat} {w : World} {f : Nat → Nat} {cur : Array Value} {s : Nat} {rows : List (List C)} (hL : ∀ x, x ∈ L' → x ∈ L) (hf : ∀ (b g : Nat), μ[b]? = some g → μ'[f b]? = some g) (h : Laid L μ w cur s rows) : Laid L' μ' w cur s (renRows f rows) := by
  unfold renRows
  split
  · rename_i ht
    intro i r hr
    obtain ⟨h1, h2⟩ := h i r hr
    refine ⟨h1, fun j c hj => ?_⟩
    obtain ⟨u, hu, hv⟩ := h2 j c hj
    have t1 := List.all_eq_true.1 ht r (List.mem_of_getElem? hr)
    have t2 := List.all_eq_true.1 t1 c (List.mem_of_getElem? hj)
    exact ⟨u, hu, C.rep.carry Carry.any (C.rep.sub hL (C.rep_tree t2 hv))⟩
  · intro i r hr
    rw [List.getElem?_map, Option.map_eq_some_iff] at hr
    obtain ⟨r0, hr0, rfl⟩ := hr
    obtain ⟨h1, h2⟩ := h i r0 hr0
    unfold renA
    split
    · rename_i ht
      refine ⟨h1, fun j c hj => ?_⟩
      obtain ⟨u, hu, hv⟩ := h2 j c hj
      have t2 := List.all_eq_true.1 ht c (List.mem_of_getElem? hj)
      exact ⟨u, hu, C.rep.carry Carry.any (C.rep.sub hL (C.rep_tree t2 hv))⟩
    · refine ⟨by rw [C.renL_length, h1], fun j c hj => ?_⟩
      rw [C.renL_get, Option.map_eq_some_iff] at hj
      obtain ⟨c0, hc0, rfl⟩ := hj
      obtain ⟨u, hu, hv⟩ := h2 j c0 hc0
      exact ⟨u, hu, C.rep_ren hL hf hv⟩

def setAll : List Nat → List Blk → List Blk → List Blk
  | b :: ks, k :: K, h => setAll ks K (h.set b k)
  | _, _, h => h
theorem setAll_length : ∀ (ks : List Nat) (K h : List Blk), (setAll ks K h).length = h.length
  | [], _, h => rfl
  | b :: ks, [], h => rfl
  | b :: ks, k :: K, h => by simp [setAll, setAll_length ks K]
theorem setAll_get : ∀ {ks : List Nat} {K h : List Blk} {x : Nat} {k : Blk}, ks.Nodup → ks.length ≤ K.length → (setAll ks K h)[x]? = some k → (∃ i : Nat, ks[i]? = some x ∧ K[i]? = some k) ∨ (x ∉ ks ∧ h[x]? = some k)
  | [], K, h, x, k, _, _, e => .inr ⟨by simp, by simpa [setAll] using e⟩
  | b :: ks, [], h, x, k, _, hl, e => by simp at hl
  | b :: ks, k0 :: K, h, x, k, hn, hl, e => by
    obtain ⟨hb, hn⟩ := List.nodup_cons.1 hn
    simp only [setAll] at e
    rcases setAll_get hn (by simpa using hl) e with ⟨i, h1, h2⟩ | ⟨h1, h2⟩
    · exact .inl ⟨i + 1, by simpa using h1, by simpa using h2⟩
    · rw [List.getElem?_set] at h2
      split at h2
      · rename_i hbx
        split at h2
        · exact .inl ⟨0, by simpa using hbx, by simpa using h2⟩
        · cases h2
      · rename_i hbx
        exact .inr ⟨by simp only [List.mem_cons, not_or]; exact ⟨fun e => hbx e.symm, h1⟩, h2⟩

/-- the callee's numbers as the caller's -/
def back (n : Nat) (ks : List Nat) (b : Nat) : Nat := if b < ks.length then ks.getD b 0 else n + (b - ks.length)
/-- the caller's own blocks behind the call -/
def merge (h : List Blk) (ks : List Nat) (H : List Blk) : List Blk := setAll ks (H.map (Blk.ren (back h.length ks))) h ++ (H.drop ks.length).map (Blk.ren (back h.length ks))

section
variable {X μ : List Nat} {h h1 : List Blk} {w w2 : World} {ks : List Nat} {vs' : List AV} {us : List Value} {K : List Blk}

def outer (X μ : List Nat) (h1 : List Blk) (ks : List Nat) : List Nat := X ++ (alive μ h1).filter fun g => !(mapK μ ks).contains g

theorem take_back (hH : Handed X μ h w ks vs' us K h1) {μ2 : List Nat} {H2 : List Blk} {v : AV} {u : Value} (hS2 : Sim (outer X μ h1 ks) μ2 H2 w2) (hT : Stp (mapK μ ks) K w μ2 H2 w2) (hv : AV.rep (outer X μ h1 ks ++ alive μ2 H2) μ2 w2 v u) :
    ∃ μ3, Sim X μ3 (merge h1 ks H2) w2 ∧ Stp μ h1 w μ3 (merge h1 ks H2) w2 ∧ AV.rep (X ++ alive μ3 (merge h1 ks H2)) μ3 w2 (v.ren (back h1.length ks)) u ∧ Keep (mapK μ ks) w w2 := by
  have hS := hH.sim
  have hμl := hS.len
  have hm2 : ks.length ≤ μ2.length := by
    rcases Nat.lt_or_ge μ2.length ks.length with hlt | hge
    · have hl : μ2.length < (mapK μ ks).length := by simp only [mapK, List.length_map]; exact hlt
      have := hT.map _ _ (List.getElem?_eq_getElem hl)
      rw [List.getElem?_eq_none (Nat.le_refl _)] at this
      cases this
    · exact hge
  have hl2 := hS2.len
  have hf : ∀ (b g : Nat), μ2[b]? = some g → (μ ++ μ2.drop ks.length)[back h1.length ks b]? = some g := fun b g hb => by
    unfold back
    split
    · rename_i hlt
      have hkb : ks[b]? = some (ks.getD b 0) := by rw [List.getD_eq_getElem?_getD, List.getElem?_eq_getElem hlt]; rfl
      obtain ⟨k, k', e1, _, _, _⟩ := hH.blk b _ hkb
      obtain ⟨g', hg', _⟩ := hS.get e1
      have := hT.map b g' (mapK_get hkb hg')
      rw [hb] at this; cases this
      rw [List.getElem?_append_left (List.getElem?_eq_some_iff.1 hg').1]
      exact hg'
    · rename_i hge
      rw [List.getElem?_append_right (by omega), List.getElem?_drop, ← hb]
      congr 1; omega
  have hget : ∀ (x : Nat) (k : Blk), (merge h1 ks H2)[x]? = some k → (x ∉ ks ∧ x < h1.length ∧ h1[x]? = some k ∧ ∀ g, (μ ++ μ2.drop ks.length)[x]? = some g → μ[x]? = some g) ∨
      ∃ (i : Nat) (k0 : Blk), x = back h1.length ks i ∧ H2[i]? = some k0 ∧ k = k0.ren (back h1.length ks) ∧ ∀ g, (μ ++ μ2.drop ks.length)[x]? = some g → μ2[i]? = some g := fun x k hx => by
    unfold merge at hx
    have sl := setAll_length ks (H2.map (Blk.ren (back h1.length ks))) h1
    rcases Nat.lt_or_ge x h1.length with hlt | hge
    · rw [List.getElem?_append_left (by omega)] at hx
      rcases setAll_get hH.nodup (by simp; omega) hx with ⟨i, e1, e2⟩ | ⟨e1, e2⟩
      · right
        rw [List.getElem?_map, Option.map_eq_some_iff] at e2
        obtain ⟨k0, e2, rfl⟩ := e2
        have hi := (List.getElem?_eq_some_iff.1 e1).1
        have hb : back h1.length ks i = x := by
          unfold back; rw [if_pos hi, List.getD_eq_getElem?_getD, e1]; rfl
        refine ⟨i, k0, hb.symm, e2, rfl, fun g hg => ?_⟩
        have hi2 : i < μ2.length := by have := (List.getElem?_eq_some_iff.1 e2).1; omega
        have := hf i _ (List.getElem?_eq_getElem hi2)
        rw [hb, hg] at this
        rw [List.getElem?_eq_getElem hi2, this]
      · exact .inl ⟨e1, hlt, e2, fun g hg => by rwa [List.getElem?_append_left (by omega)] at hg⟩
    · right
      rw [List.getElem?_append_right (by omega), List.getElem?_map, Option.map_eq_some_iff, sl] at hx
      obtain ⟨k0, e1, rfl⟩ := hx
      rw [List.getElem?_drop] at e1
      refine ⟨_, k0, ?_, e1, rfl, fun g hg => ?_⟩
      · unfold back; rw [if_neg (by omega)]; omega
      · rw [List.getElem?_append_right (by omega), List.getElem?_drop, hμl] at hg
        exact hg
  have halk : ∀ x, x ∈ alive (mapK μ ks) K → ∃ b k, b ∈ ks ∧ h1[b]? = some k ∧ k.st.isMut = true ∧ k.st.known = true ∧ μ[b]? = some x := fun x hx => by
    obtain ⟨i, q, e1, e2, e3⟩ := mem_alive.1 hx
    have hi : i < ks.length := by have := (List.getElem?_eq_some_iff.1 e1).1; simpa [mapK] using this
    obtain ⟨k, k', f1, f2, f3, f4⟩ := hH.blk i _ (List.getElem?_eq_getElem hi)
    rw [f3] at e2; cases e2
    obtain ⟨g', hg', _⟩ := hS.get f1
    have := mapK_get (List.getElem?_eq_getElem hi) hg'
    rw [e1] at this; cases this
    exact ⟨_, k, List.getElem_mem hi, f1, by rw [← f4]; exact e3, f2, hg'⟩
  have hal1 : ∀ x, x ∈ alive (mapK μ ks) K → x ∈ alive μ h1 := fun x hx => by
    obtain ⟨b, k, _, h2, h3, _, h5⟩ := halk x hx
    exact mem_alive.2 ⟨b, k, h5, h2, h3⟩
  have hmk : ∀ x, x ∈ mapK μ ks → ∃ b k, b ∈ ks ∧ h1[b]? = some k ∧ k.st.known = true ∧ μ[b]? = some x := fun x hx => by
    obtain ⟨i, hi⟩ := List.getElem?_of_mem hx
    have hil : i < ks.length := by have := (List.getElem?_eq_some_iff.1 hi).1; simpa [mapK] using this
    obtain ⟨k, k', f1, f2, _, _⟩ := hH.blk i _ (List.getElem?_eq_getElem hil)
    obtain ⟨g', hg', _⟩ := hS.get f1
    have := mapK_get (List.getElem?_eq_getElem hil) hg'
    rw [hi] at this; cases this
    exact ⟨_, k, List.getElem_mem hil, f1, f2, hg'⟩
  have hold : ∀ (x : Nat) (k : Blk) (g : Nat), x ∉ ks → h1[x]? = some k → k.st.isMut = true → μ[x]? = some g → g ∈ outer X μ h1 ks := fun x k g hx hk hm hg => by
    refine List.mem_append.2 (.inr (List.mem_filter.2 ⟨mem_alive.2 ⟨x, k, hg, hk, hm⟩, ?_⟩))
    simp only [Bool.not_eq_true', List.contains_eq_mem, decide_eq_false_iff_not]
    intro hmem
    obtain ⟨b, k2, e1, e2, e3, e4⟩ := hmk g hmem
    exact hS.inj x b k k2 g (fun e => hx (e ▸ e1)) hk e2 hm e3 hg e4
  have hmem3 : ∀ x, x ∈ alive (μ ++ μ2.drop ks.length) (merge h1 ks H2) → x ∈ outer X μ h1 ks ∧ x ∈ alive μ h1 ∨ x ∈ alive μ2 H2 := fun x hx => by
    obtain ⟨i, k, e1, e2, e3⟩ := mem_alive.1 hx
    rcases hget i k e2 with ⟨f1, _, f2, f3⟩ | ⟨j, k0, _, f2, rfl, f4⟩
    · exact .inl ⟨hold i k x f1 f2 e3 (f3 x e1), mem_alive.2 ⟨i, k, f3 x e1, f2, e3⟩⟩
    · exact .inr (mem_alive.2 ⟨j, k0, f4 x e1, f2, e3⟩)
  have hL3 : ∀ x, x ∈ X ++ alive (μ ++ μ2.drop ks.length) (merge h1 ks H2) → x ∈ outer X μ h1 ks ++ alive μ2 H2 := fun x hx => by
    rcases List.mem_append.1 hx with hx | hx
    · exact List.mem_append.2 (.inl (List.mem_append.2 (.inl hx)))
    · rcases hmem3 x hx with ⟨h, _⟩ | h
      · exact List.mem_append.2 (.inl h)
      · exact List.mem_append.2 (.inr h)
  have hT3 : Stp μ h1 w (μ ++ μ2.drop ks.length) (merge h1 ks H2) w2 := by
    refine ⟨hT.keep.mono hal1, fun b g hb => by rw [List.getElem?_append_left (List.getElem?_eq_some_iff.1 hb).1]; exact hb, fun x hx hlt => ?_⟩
    rcases hmem3 x hx with ⟨_, h⟩ | h
    · exact h
    · exact hal1 x (hT.old x h hlt)
  refine ⟨μ ++ μ2.drop ks.length, ⟨?_, ?_, fun g hg => Nat.lt_of_lt_of_le (hS.xlt g hg) hT.keep.size, ?_, ?_, ?_⟩, hT3, AV.rep_ren hL3 hf hv, hT.keep.mono fun x hx => by
    obtain ⟨i, q, e1, _, _⟩ := mem_alive.1 hx
    exact List.mem_of_getElem? e1⟩
  · unfold merge
    simp only [List.length_append, List.length_drop, List.length_map, setAll_length]
    omega
  · intro g hg
    rcases List.mem_append.1 hg with hg | hg
    · exact Nat.lt_of_lt_of_le (hS.lt g hg) hT.keep.size
    · exact hS2.lt g (List.mem_of_mem_drop hg)
  · intro i k g hi hk hg
    rcases hget i k hi with ⟨f1, _, f2, f3⟩ | ⟨j, k0, _, f2, rfl, f4⟩
    · exact hS.out i k g f2 hk (f3 g hg)
    · exact fun hx => hS2.out j k0 g f2 hk (f4 g hg) (List.mem_append.2 (.inl hx))
  · intro i j k k' g hij hi hj hm hk hgi hgj
    rcases hget i k hi with ⟨f1, _, f2, f3⟩ | ⟨i', k0, e1, f2, rfl, f4⟩ <;> rcases hget j k' hj with ⟨q1, _, q2, q3⟩ | ⟨j', k1, e2, q2, rfl, q4⟩
    · exact hS.inj i j k k' g hij f2 q2 hm hk (f3 g hgi) (q3 g hgj)
    · exact hS2.out j' k1 g q2 hk (q4 g hgj) (hold i k g f1 f2 hm (f3 g hgi))
    · have hga : g ∈ alive μ2 H2 := mem_alive.2 ⟨i', k0, f4 g hgi, f2, hm⟩
      obtain ⟨b, kb, c1, c2, c3, c4, c5⟩ := halk g (hT.old g hga (hS.lt g (List.mem_of_getElem? (q3 g hgj))))
      exact hS.inj b j kb k' g (fun e => q1 (e ▸ c1)) c2 q2 c3 hk c5 (q3 g hgj)
    · exact hS2.inj i' j' k0 k1 g (fun e => hij (by rw [e1, e2, e])) f2 q2 hm hk (f4 g hgi) (q4 g hgj)
  · intro i k g hi hk hg
    rcases hget i k hi with ⟨f1, _, f2, f3⟩ | ⟨j, k0, _, f2, rfl, f4⟩
    · obtain ⟨cur, hc, hl⟩ := hS.blk i k g f2 hk (f3 g hg)
      refine ⟨cur, ?_, hl.carry hT3.carry⟩
      rw [hT.keep.block g (fun hx => ?_) (hS.lt g (List.mem_of_getElem? (f3 g hg)))]
      · exact hc
      · obtain ⟨b, kb, c1, c2, c3, c4, c5⟩ := halk g hx
        exact hS.inj b i kb k g (fun e => f1 (e ▸ c1)) c2 f2 c3 hk c5 (f3 g hg)
    · obtain ⟨cur, hc, hl⟩ := hS2.blk j k0 g f2 hk (f4 g hg)
      exact ⟨cur, hc, hl.ren hL3 hf⟩
end
end Go.Proofs.Sh
