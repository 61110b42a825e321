/- Operations that make or write memory. -/
import Derived.Test.YtkkijdlgmlffoaaShP
namespace Go.Proofs.Sh
open Go.RowKit

/-- the operation yields a value with this shadow, and the own blocks are then as h' says -/
def OpOK (P : Program) (X μ : List Nat) (s : ASt) (a : Act) (w : World) (o : Oper) (v : AV) (h' : List Blk) : Prop :=
  ∃ u w' μ', (execOp a.eval o).run P w = .ok (.value u) w' ∧ Sim X μ' h' w' ∧ Stp μ s.h w μ' h' w' ∧ AV.rep (X ++ alive μ' h') μ' w' v u

/-- .. and only new memory is written -/
def OpNew (P : Program) (X μ : List Nat) (s : ASt) (a : Act) (w : World) (o : Oper) (v : AV) (h' : List Blk) : Prop :=
  ∃ u w' μ', (execOp a.eval o).run P w = .ok (.value u) w' ∧ Sim X μ' h' w' ∧ Stp μ s.h w μ' h' w' ∧ AV.rep (X ++ alive μ' h') μ' w' v u ∧ Keep [] w w'

section
variable {P : Program} {X μ : List Nat} {s : ASt} {a : Act} {w : World} {o : Oper} {L : List Nat}

theorem OpNew.ok {v : AV} {h' : List Blk} (h : OpNew P X μ s a w o v h') : OpOK P X μ s a w o v h' :=
  let ⟨u, w', μ', h1, h2, h3, h4, _⟩ := h; ⟨u, w', μ', h1, h2, h3, h4⟩
theorem OpOK.of_pure {v : AV} (hF : SimF X μ s a w) (h : ∃ u, PureV P o a u ∧ AV.rep (X ++ alive μ s.h) μ w v u) : OpOK P X μ s a w o v s.h :=
  let ⟨u, h1, h2⟩ := h; ⟨u, w, μ, h1 w, hF.sim, Stp.refl _ _ _, h2⟩

theorem sim_ptr {μ : List Nat} {H : List Blk} {w w' : World} {n : Nat} (hl : μ.length = H.length) : AV.rep L (μ ++ [w.heap.size]) w' (.one (.ptr n H.length 0 0)) (.pointer (some ⟨w.heap.size, 0, none⟩)) := by
  simp only [AV.rep, C.rep]
  exact ⟨w.heap.size, getElem?_snoc.2 (.inr ⟨hl.symm, rfl⟩), by simp⟩

theorem op_alloc {t : TypeId} {ti : TI} (ho : o.op = .alloc t) (hF : SimF X μ s a w) (hti : tinfo P t = some ti) : OpNew P X μ s a w o (.one (.ptr ti.size s.h.length 0 0)) (s.h ++ [⟨ti.size, t, .mut, [ti.zero.map .sc]⟩]) := by
  obtain ⟨i, d, z, hi, hd, hz, hzc, hzs, rfl⟩ := tinfo_spec hti
  have hrun : (execOp a.eval o).run P w = .ok (.value (.pointer (some ⟨w.heap.size, 0, none⟩))) (w.alloc (.cells z.cells t)) := by
    simp [execOp, ho, Instr.alloc, run_zeroValue' hi hz, newVar, newRow]
  have hl : Laid (X ++ alive μ s.h) μ w z.cells i.size [z.cells.toList.map .sc] := by
    have := Laid.one (L := X ++ alive μ s.h) (μ := μ) (w := w) (C.repl_sc hzc)
    simpa [hzs] using this
  obtain ⟨h1, h2⟩ := hF.sim.new (Keep.alloc _ w _) (heap_alloc_new w _) (ty := t) hl
  exact ⟨_, _, _, hrun, h1, h2, sim_ptr hF.sim.len, Keep.alloc _ _ _⟩

theorem op_box {t : TypeId} {x : Operand} {cs : List C} (ho : o.op = .box t x) (hF : SimF X μ s a w) (hx : (s.eval x).bind AV.cells = some cs) : OpNew P X μ s a w o (.one (.ptr cs.length s.h.length 0 0)) (s.h ++ [⟨cs.length, t, .mut, [cs]⟩]) := by
  have hr := bind_cells (a := a) (fun o v hv => hF.eval hv) hx
  have hrun : (execOp a.eval o).run P w = .ok (.value (.pointer (some ⟨w.heap.size, 0, none⟩))) (w.alloc (.cells (a.eval x).cells t)) := by
    simp [execOp, ho, Instr.box, newVar, newRow]
  obtain ⟨h1, h2⟩ := hF.sim.new (Keep.alloc _ w _) (heap_alloc_new w _) (ty := t) (Laid.one hr)
  exact ⟨_, _, _, hrun, h1, h2, sim_ptr hF.sim.len, Keep.alloc _ _ _⟩

theorem op_build {t : TypeId} {parts : Array (Nat × Operand)} {v : AV} (ho : o.op = .build t parts) (hF : SimF X μ s a w) (hv : abuild P t (parts.toList.map fun p => (p.1, s.eval p.2)) = some v) : ∃ u, PureV P o a u ∧ AV.rep (X ++ alive μ s.h) μ w v u := by
  unfold abuild at hv
  split at hv
  · rename_i ti hti
    obtain ⟨i, d, z, hi, hd, hz, hzc, hzs, rfl⟩ := tinfo_spec hti
    split at hv
    · rename_i hk
      simp only at hk
      obtain ⟨hk, _⟩ := hk
      obtain ⟨fs, rfl⟩ := tkind_struct (tkindP_eq hk (by decide))
      split at hv
      · rename_i cs hcs
        cases hv
        have hall : ∀ f ∈ fs.toList, ∃ i, P.info? f.type = some i ∧ (tfield P f).1 = f.offset ∧ (tfield P f).2.1 = i.size := by
          intro f hf
          have h9 : ((tfields P (.struct fs)).all (fun f => f.2.1 != 0)) = true := by
            unfold tkindP at hk
            split at hk
            · assumption
            · cases hk
          have h1 := List.all_eq_true.1 h9 (tfield P f) (by simp only [tfields]; exact List.mem_map_of_mem hf)
          unfold tfield at h1 ⊢
          split at h1
          · rename_i d' hd'
            simp only [bne_iff_ne, ne_eq] at h1
            unfold Program.cellsOf at h1
            cases hi' : P.info? f.type with
            | none => rw [hi'] at h1; simp at h1
            | some i' => exact ⟨i', rfl, rfl, by simp [Program.cellsOf, hi']⟩
          · simp at h1
        have hpl : ∀ (l : List Field), (∀ f ∈ l, ∃ i, P.info? f.type = some i ∧ (tfield P f).1 = f.offset ∧ (tfield P f).2.1 = i.size) →
            l.mapM (fun f => (P.info? f.type).map fun i => (f.offset, i.size)) = some (l.map fun f => ((tfield P f).1, (tfield P f).2.1)) := by
          intro l
          induction l with
          | nil => intro _; rfl
          | cons f l ih =>
            intro h
            obtain ⟨i, h1, h2, h3⟩ := h f (by simp)
            simp [List.mapM_cons, h1, ih (fun f hf => h f (by simp [hf])), h2, h3]
        have hplaces := hpl fs.toList hall
        obtain ⟨cells', h1, h2⟩ := fill_sound (a := a) (place := ((fs.toList.map fun f => ((tfield P f).1, (tfield P f).2.1)).toArray[·]?)) (fun f off size g hf => by
          simp only [tfields, List.getElem?_map, Option.map_eq_some_iff] at hf
          obtain ⟨fl, h1, h2⟩ := hf
          simp [h1, h2]) (fun o v hv => hF.eval hv) parts.toList _ cs z.cells hcs (C.repl_sc hzc)
        have hb : P.built t (parts.map fun (i, x) => (i, a.eval x)).toList = some cells' := by
          unfold Program.built
          simp only [hi, hd, hz, hplaces]
          simpa using h1
        exact ⟨.agg cells', fun w => by simp only [execOp, ho, Sem.run_bind, run_build w t _ cells' hb, Result.andThen_ok, Sem.run_pure], by simp only [AV.rep]; exact ⟨_, rfl, h2⟩⟩
      · cases hv
    · cases hv
  · cases hv

/-! ### reading -/
theorem acells_spec {p : C} {cs : List C} {u : Value} (hS : Sim X μ s.h w) (h : acells s.h p = some cs) (hp : C.rep (X ++ alive μ s.h) μ w p u) :
    ∃ g off, u = .pointer (some ⟨g, off, none⟩) ∧ g < w.heap.size ∧ (g ∉ X ++ alive μ s.h ∨ ∃ n b i j k, p = .ptr n b i j ∧ μ[b]? = some g ∧ s.h[b]? = some k ∧ k.st.known = true) ∧
      ∀ (j : Nat) (c : C), cs[j]? = some c → ∃ v, w.cell? ⟨g, off + j, none⟩ = some v ∧ C.rep (X ++ alive μ s.h) μ w c v := by
  unfold acells at h
  split at h
  · cases h
    simp only [C.rep] at hp
    obtain ⟨b, off, rfl, hlt, hb, hr⟩ := hp
    refine ⟨b, _, rfl, hlt, .inl hb, fun j c hj => ?_⟩
    rw [List.getElem?_drop] at hj
    obtain ⟨v, h1, h2⟩ := C.reps_get hr _ c hj
    exact ⟨v, by rw [Nat.add_assoc]; exact h1, C.rep.carry Carry.any h2⟩
  · rename_i n b i j
    split at h
    · rename_i k hb
      split at h
      · rename_i hk
        obtain ⟨hk, rfl⟩ := hk
        split at h
        · rename_i r hr
          cases h
          simp only [C.rep] at hp
          obtain ⟨g, hg, rfl⟩ := hp
          obtain ⟨cur, hc, hl⟩ := hS.blk b _ g hb hk hg
          obtain ⟨hrl, hrr⟩ := hl i r hr
          refine ⟨g, _, rfl, hS.lt g (List.mem_of_getElem? hg), .inr ⟨_, b, i, j, k, rfl, hg, hb, hk⟩, fun j' c hj => ?_⟩
          rw [List.getElem?_drop] at hj
          obtain ⟨v, h1, h2⟩ := hrr _ c hj
          exact ⟨v, by simp only [World.cell?, hc, Nat.add_assoc]; simpa using h1, h2⟩
        · cases h
      · cases h
    · cases h
  · cases h

/-- a read: of which block, and what it yields in every world that has this block as it is -/
theorem op_load {t : TypeId} {x : Operand} {p : C} {v : AV} (ho : o.op = .load t x) (hF : SimF X μ s a w) (hx : s.eval x = some (.one p)) (hv : aload P s.h t p = some v) :
    ∃ g u, g < w.heap.size ∧ (g ∉ X ++ alive μ s.h ∨ ∃ n b i j k, p = .ptr n b i j ∧ μ[b]? = some g ∧ s.h[b]? = some k ∧ k.st.known = true) ∧
      (∀ w2 : World, w2.heap[g]? = w.heap[g]? → (execOp a.eval o).run P w2 = .ok (.value u) w2) ∧ AV.rep (X ++ alive μ s.h) μ w v u := by
  have hp := hF.eval hx
  simp only [AV.rep] at hp
  unfold aload at hv
  split at hv
  · rename_i ti cs hti hcs
    obtain ⟨i, d, z, hi, hd, hz, hzc, hzs, rfl⟩ := tinfo_spec hti
    obtain ⟨g, off, he, hlt, hor, hc⟩ := acells_spec hF.sim hcs hp
    simp only at hv
    split at hv
    · rename_i hag
      split at hv
      · rename_i hsz
        cases hv
        have hex : ∃ us : List Value, C.repl (X ++ alive μ s.h) μ w (cs.take i.size) us ∧ ∀ (j : Nat) (u : Value), us[j]? = some u → w.cell? ⟨g, off + j, none⟩ = some u := by
          have : C.reps (X ++ alive μ s.h) μ w (cs.take i.size) g off := C.reps_of (fun j c hj => by
            rw [List.getElem?_take] at hj
            split at hj
            · exact hc j c hj
            · cases hj)
          exact C.reps_vals this
        obtain ⟨us, hus, hcell⟩ := hex
        have hul : us.length = i.size := by rw [C.repl_length hus]; simp; omega
        refine ⟨g, .agg us.toArray, hlt, hor, fun w2 hw2 => ?_, by simp only [AV.rep]; exact ⟨_, rfl, by simpa using hus⟩⟩
        have hcell2 : ∀ (j : Nat) (u : Value), us[j]? = some u → w2.cell? ((⟨g, off, none⟩ : Addr).add j) = some u := fun j u hj => by
          rw [addr_add, World.cell?_of_block (w := w) (w' := w2) (a := ⟨g, off + j, none⟩) hw2]
          exact hcell j u hj
        have hl := run_loadCells_list (P := P) (w := w2) ⟨g, off, none⟩ us hcell2
        simp only [execOp, ho, he, Instr.loadAt, Instr.sureAddr, loadVar, Sem.run_bind, Sem.run_pure, Result.andThen_ok, run_isAgg' hd, hag, if_true, run_sizeOf' hi, ← hul, hl]
      · cases hv
    · rename_i hag
      split at hv
      · rename_i c hc0
        cases hv
        obtain ⟨u, hu, hr⟩ := hc 0 c hc0
        refine ⟨g, u, hlt, hor, fun w2 hw2 => ?_, by simp only [AV.rep]; exact hr⟩
        have hcell2 : w2.cell? ⟨g, off, none⟩ = some u := by
          rw [World.cell?_of_block (w := w) (w' := w2) (a := ⟨g, off, none⟩) hw2]
          simpa using hu
        have hag' : tagg d = false := by simpa using hag
        simp [execOp, ho, he, Instr.loadAt, Instr.sureAddr, loadVar, run_isAgg' hd, hag', hcell2]
      · cases hv
  · cases hv
end

theorem set_get {H : List Blk} {b i : Nat} {k k' x : Blk} (hb : H[b]? = some k) : (H.set b k')[i]? = some x ↔ (i = b ∧ x = k') ∨ (i ≠ b ∧ H[i]? = some x) := by
  have hlt := (List.getElem?_eq_some_iff.1 hb).1
  rw [List.getElem?_set]
  by_cases h : b = i
  · subst h; simp [hlt, eq_comm]
  · rw [if_neg h]; simp [Ne.symm h]
theorem mem_alive_set {μ : List Nat} {H : List Blk} {b x : Nat} {k k' : Blk} (hb : H[b]? = some k) (hst : k'.st.isMut = k.st.isMut) : x ∈ alive μ (H.set b k') ↔ x ∈ alive μ H := by
  rw [mem_alive, mem_alive]
  constructor
  · rintro ⟨i, q, h1, h2, h3⟩
    rcases (set_get hb).1 h2 with ⟨rfl, rfl⟩ | ⟨_, h2⟩
    · exact ⟨i, k, h1, hb, by rw [← hst]; exact h3⟩
    · exact ⟨i, q, h1, h2, h3⟩
  · rintro ⟨i, q, h1, h2, h3⟩
    by_cases hi : i = b
    · subst hi
      rw [hb] at h2
      cases h2
      exact ⟨i, k', h1, (set_get hb).2 (.inl ⟨rfl, rfl⟩), by rw [hst]; exact h3⟩
    · exact ⟨i, q, h1, (set_get hb).2 (.inr ⟨hi, h2⟩), h3⟩

/-- a store into an own block -/
theorem Sim.set {X μ : List Nat} {H : List Blk} {w : World} {b g : Nat} {k : Blk} {cur cur' : Array Value} {rows : List (List C)} (h : Sim X μ H w) (hb : H[b]? = some k) (hm : k.st.isMut = true) (hg : μ[b]? = some g)
    (hc : w.heap[g]? = some (.cells cur k.ty (0, 0))) (hsz : cur'.size = cur.size) (hl : Laid (X ++ alive μ H) μ w cur' k.s rows) :
    Sim X μ (H.set b ⟨k.s, k.ty, k.st, rows⟩) (w.setRow g cur') ∧ Stp μ H w μ (H.set b ⟨k.s, k.ty, k.st, rows⟩) (w.setRow g cur') := by
  have hga : g ∈ alive μ H := mem_alive.2 ⟨b, k, hg, hb, hm⟩
  have hK := Keep.setRow (w := w) hga hc hsz
  have hmem : ∀ x, x ∈ alive μ (H.set b ⟨k.s, k.ty, k.st, rows⟩) ↔ x ∈ alive μ H := fun x => mem_alive_set hb rfl
  have hS : Stp μ H w μ (H.set b ⟨k.s, k.ty, k.st, rows⟩) (w.setRow g cur') := ⟨hK, fun _ _ e => e, fun x hx _ => (hmem x).1 hx⟩
  have hsize : (w.setRow g cur').heap.size = w.heap.size := by simp [World.setRow]
  refine ⟨⟨by simp [h.len], fun x hx => by rw [hsize]; exact h.lt x hx, fun x hx => by rw [hsize]; exact h.xlt x hx, ?_, ?_, ?_⟩, hS⟩
  · intro i q gg hi hq hgi
    rcases (set_get hb).1 hi with ⟨rfl, rfl⟩ | ⟨_, hi⟩
    · exact h.out i k gg hb hq hgi
    · exact h.out i q gg hi hq hgi
  · intro i j q q' gg hij hi hj hq hq' hgi hgj
    have get : ∀ (i : Nat) (q : Blk), (H.set b ⟨k.s, k.ty, k.st, rows⟩)[i]? = some q → ∃ q0, H[i]? = some q0 ∧ q0.st = q.st := fun i q hi => by
      rcases (set_get hb).1 hi with ⟨rfl, rfl⟩ | ⟨_, hi⟩
      · exact ⟨k, hb, rfl⟩
      · exact ⟨q, hi, rfl⟩
    obtain ⟨a1, e1, e2⟩ := get i q hi
    obtain ⟨a2, e3, e4⟩ := get j q' hj
    exact h.inj i j a1 a2 gg hij e1 e3 (by rw [e2]; exact hq) (by rw [e4]; exact hq') hgi hgj
  · intro i q gg hi hq hgi
    rcases (set_get hb).1 hi with ⟨rfl, rfl⟩ | ⟨hne, hi⟩
    · rw [hg] at hgi; cases hgi
      exact ⟨cur', setRow_heap w g cur cur' _ _ hc, hl.carry hS.carry⟩
    · obtain ⟨c, hc', hl'⟩ := h.blk i q gg hi hq hgi
      have hne2 : gg ≠ g := fun e => by subst e; exact h.inj b i k q gg (Ne.symm hne) hb hi hm hq hg hgi
      exact ⟨c, by rw [setRow_other w g gg _ hne2]; exact hc', hl'.carry hS.carry⟩

theorem repl_at (cur : Array Value) (o : Nat) (vs : List Value) (m : Nat) (hfit : o + vs.length ≤ cur.size) : ((cur.toList.take o ++ vs ++ cur.toList.drop (o + vs.length)).toArray)[m]? = if o ≤ m ∧ m < o + vs.length then vs[m - o]? else cur[m]? := by
  rw [List.getElem?_toArray]
  by_cases h1 : m < o
  · rw [List.getElem?_append_left (by simp; omega), List.getElem?_append_left (by simp; omega), List.getElem?_take, if_pos h1, if_neg (by omega), Array.getElem?_toList]
  · by_cases h2 : m < o + vs.length
    · rw [List.getElem?_append_left (by simp; omega), List.getElem?_append_right (by simp; omega), if_pos (by omega)]; congr 1; simp; omega
    · rw [List.getElem?_append_right (by simp; omega), List.getElem?_drop, if_neg (by omega), Array.getElem?_toList]; congr 1; simp; omega
theorem splice_get {r cs : List C} {j n : Nat} (hl : j + cs.length ≤ r.length) : (splice r j cs)[n]? = if j ≤ n ∧ n < j + cs.length then cs[n - j]? else r[n]? := by
  unfold splice
  by_cases h1 : n < j
  · rw [List.getElem?_append_left (by simp; omega), List.getElem?_take, if_pos h1, if_neg (by omega)]
  · rw [List.getElem?_append_right (by simp; omega)]
    by_cases h2 : n < j + cs.length
    · rw [List.getElem?_append_left (by simp; omega), if_pos (by omega)]; congr 1; simp; omega
    · rw [List.getElem?_append_right (by simp; omega), List.getElem?_drop, if_neg (by omega)]; congr 1; simp; omega
theorem splice_length {r cs : List C} {j : Nat} (hl : j + cs.length ≤ r.length) : (splice r j cs).length = r.length := by
  unfold splice; simp; omega

section
variable {P : Program} {X μ : List Nat} {s : ASt} {a : Act} {w : World} {o : Oper} {L : List Nat}

theorem op_store {t : TypeId} {x y : Operand} {p : C} {v : AV} {h' : List Blk} (ho : o.op = .store t x y) (hF : SimF X μ s a w) (hx : s.eval x = some (.one p)) (hy : s.eval y = some v) (hv : astore P s.h t p v = some h') :
    ∃ w', (execOp a.eval o).run P w = .ok .skip w' ∧ Sim X μ h' w' ∧ Stp μ s.h w μ h' w' := by
  have hp := hF.eval hx
  have hval := hF.eval hy
  unfold astore at hv
  split at hv
  · rename_i ti n b i j cs hti hcs
    obtain ⟨it, d, z, hi, hd, hz, hzc, hzs, rfl⟩ := tinfo_spec hti
    split at hv
    · rename_i k hb
      split at hv
      · rename_i hk
        obtain ⟨hsz, hm, rfl⟩ := hk
        split at hv
        · rename_i r hr
          split at hv
          · rename_i hjl
            cases hv
            simp only [AV.rep, C.rep] at hp
            obtain ⟨g, hg, he⟩ := hp
            have hkn : k.st.known = true := by
              cases hst : k.st <;> simp [St.isMut, St.known, hst] at hm ⊢
            obtain ⟨cur, hc, hl⟩ := hF.sim.blk b k g hb hkn hg
            obtain ⟨hrl, hrr⟩ := hl i r hr
            have hvr := AV.rep_cells hcs hval
            have hvl := C.repl_length hvr
            have hvo := C.repl_one hvr
            simp only at hsz
            have hfit : i * k.s + j + (a.eval y).cells.toList.length ≤ cur.size := by
              rw [hvl]
              have hrs : 0 < r.length ∨ r.length = 0 := by omega
              rcases hrs with hrs | hrs
              · have : r.length - 1 < r.length := by omega
                obtain ⟨u, hu, _⟩ := hrr (r.length - 1) _ (List.getElem?_eq_getElem this)
                have := (Array.getElem?_eq_some_iff.1 hu).1
                omega
              · have h0 : k.s = 0 := by omega
                rw [h0]; simp; omega
            have hst := run_storeCells_at P g (i * k.s + j) k.ty (a.eval y).cells.toList 0 cur w hc (by simpa using hfit) hvo
            simp only [Nat.add_zero] at hst
            have hrun : (execOp a.eval o).run P w = .ok .skip (w.setRow g (cur.toList.take (i * k.s + j) ++ (a.eval y).cells.toList ++ cur.toList.drop (i * k.s + j + (a.eval y).cells.toList.length)).toArray) := by
              have : (a.eval y).cells.size = it.size := by simp only [Array.length_toList] at hvl; omega
              simp [execOp, ho, he, Instr.storeAt, Instr.sureAddr, storeVar, run_sizeOf' hi, this, hst]
            refine ⟨_, hrun, hF.sim.set hb hm hg hc (by simp at hfit ⊢; omega) ?_⟩
            intro i' r' hr'
            have hlt := (List.getElem?_eq_some_iff.1 hr).1
            rw [List.getElem?_set] at hr'
            split at hr'
            · rename_i hii
              subst hii
              cases hr'
              refine ⟨by rw [splice_length hjl, hrl], fun m c hc' => ?_⟩
              rw [splice_get hjl] at hc'
              split at hc'
              · rename_i hm'
                obtain ⟨u, hu, hur⟩ := C.repl_get hvr _ c hc'
                refine ⟨u, ?_, hur⟩
                rw [repl_at _ _ _ _ hfit, if_pos (by omega), ← hu]
                congr 1; omega
              · rename_i hm'
                obtain ⟨u, hu, hur⟩ := hrr m c hc'
                refine ⟨u, ?_, hur⟩
                rw [repl_at _ _ _ _ hfit, if_neg (by omega)]
                exact hu
            · rename_i hii
              obtain ⟨q1, q2⟩ := hl i' r' hr'
              refine ⟨q1, fun m c hc' => ?_⟩
              obtain ⟨u, hu, hur⟩ := q2 m c hc'
              refine ⟨u, ?_, hur⟩
              have hml := (List.getElem?_eq_some_iff.1 hc').1
              rw [repl_at _ _ _ _ hfit, if_neg]
              · exact hu
              · intro ⟨b1, b2⟩
                rcases Nat.lt_or_gt_of_ne hii with hlt' | hgt
                · have := Nat.mul_le_mul_right k.s (show i + 1 ≤ i' by omega)
                  rw [Nat.succ_mul] at this
                  omega
                · have := Nat.mul_le_mul_right k.s (show i' + 1 ≤ i by omega)
                  rw [Nat.succ_mul] at this
                  omega
          · cases hv
        · cases hv
      · cases hv
    · cases hv
  · cases hv
end
end Go.Proofs.Sh
