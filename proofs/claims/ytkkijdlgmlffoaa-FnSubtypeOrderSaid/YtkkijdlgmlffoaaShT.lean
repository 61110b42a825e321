/- Append. -/
import Derived.Test.YtkkijdlgmlffoaaShS
namespace Go.Proofs.Sh
open Go.RowKit

def Blk.dead (k : Blk) : Blk := ⟨k.s, k.ty, .dead, []⟩

/-- a block is forgotten -/
theorem Sim.kill {X μ : List Nat} {H : List Blk} {w : World} {b : Nat} {k : Blk} (h : Sim X μ H w) (hb : H[b]? = some k) : Sim X μ (H.set b k.dead) w ∧ Stp μ H w μ (H.set b k.dead) w := by
  have hmem : ∀ x, x ∈ alive μ (H.set b k.dead) → x ∈ alive μ H := fun x hx => by
    obtain ⟨i, q, h1, h2, h3⟩ := mem_alive.1 hx
    rcases (set_get hb).1 h2 with ⟨rfl, rfl⟩ | ⟨_, h2⟩
    · cases h3
    · exact mem_alive.2 ⟨i, q, h1, h2, h3⟩
  have hS : Stp μ H w μ (H.set b k.dead) w := ⟨Keep.refl _ _, fun _ _ e => e, fun x hx _ => hmem x hx⟩
  refine ⟨⟨by simp [h.len], h.lt, h.xlt, ?_, ?_, ?_⟩, hS⟩
  · intro i q g hi hq hg
    rcases (set_get hb).1 hi with ⟨rfl, rfl⟩ | ⟨_, hi⟩
    · cases hq
    · exact h.out i q g hi hq hg
  · intro i j q q' g hij hi hj hq hq' hgi hgj
    rcases (set_get hb).1 hi with ⟨rfl, rfl⟩ | ⟨_, hi⟩
    · cases hq
    · rcases (set_get hb).1 hj with ⟨rfl, rfl⟩ | ⟨_, hj⟩
      · cases hq'
      · exact h.inj i j q q' g hij hi hj hq hq' hgi hgj
  · intro i q g hi hq hg
    rcases (set_get hb).1 hi with ⟨rfl, rfl⟩ | ⟨_, hi⟩
    · cases hq
    · obtain ⟨c, h1, h2⟩ := h.blk i q g hi hq hg
      exact ⟨c, h1, h2.carry hS.carry⟩

/-- an own block is written, and goes by a new number -/
theorem Sim.regrow {X μ : List Nat} {H : List Blk} {w : World} {b g s : Nat} {k : Blk} {cur cur' : Array Value} {rows : List (List C)} (h : Sim X μ H w) (hb : H[b]? = some k) (hm : k.st.isMut = true) (hg : μ[b]? = some g)
    (hc : w.heap[g]? = some (.cells cur k.ty (0, 0))) (hsz : cur'.size = cur.size) (hl : Laid (X ++ alive μ H) μ w cur' s rows) :
    Sim X (μ ++ [g]) (H.set b k.dead ++ [⟨s, k.ty, .mut, rows⟩]) (w.setRow g cur') ∧ Stp μ H w (μ ++ [g]) (H.set b k.dead ++ [⟨s, k.ty, .mut, rows⟩]) (w.setRow g cur') := by
  have hga : g ∈ alive μ H := mem_alive.2 ⟨b, k, hg, hb, hm⟩
  have hK := Keep.setRow (w := w) hga hc hsz
  obtain ⟨hD, _⟩ := h.kill hb
  have hmem : ∀ x, x ∈ alive (μ ++ [g]) (H.set b k.dead ++ [⟨s, k.ty, .mut, rows⟩]) → x ∈ alive μ H := fun x hx => by
    rcases (mem_alive_snoc (b := ⟨s, k.ty, .mut, rows⟩) hD.len).1 hx with hx | ⟨rfl, _⟩
    · obtain ⟨i, q, h1, h2, h3⟩ := mem_alive.1 hx
      rcases (set_get hb).1 h2 with ⟨rfl, rfl⟩ | ⟨_, h2⟩
      · cases h3
      · exact mem_alive.2 ⟨i, q, h1, h2, h3⟩
    · exact hga
  have hS : Stp μ H w (μ ++ [g]) (H.set b k.dead ++ [⟨s, k.ty, .mut, rows⟩]) (w.setRow g cur') := ⟨hK, fun b g hb => getElem?_snoc.2 (.inl hb), fun x hx _ => hmem x hx⟩
  have hsize : (w.setRow g cur').heap.size = w.heap.size := by simp [World.setRow]
  have hlen := h.len
  refine ⟨⟨by simp [h.len], ?_, fun x hx => by rw [hsize]; exact h.xlt x hx, ?_, ?_, ?_⟩, hS⟩
  · intro x hx
    rw [hsize]
    rcases List.mem_append.1 hx with hx | hx
    · exact h.lt x hx
    · simp at hx; subst hx; exact h.lt _ (List.mem_of_getElem? hg)
  · intro i q gg hi hq hgi
    rw [getElem?_snoc] at hi hgi
    simp only [List.length_set] at hi
    rcases hgi with hgi | ⟨hgi, rfl⟩
    · rcases hi with hi | ⟨hi, rfl⟩
      · rcases (set_get hb).1 hi with ⟨rfl, rfl⟩ | ⟨_, hi⟩
        · cases hq
        · exact h.out i q gg hi hq hgi
      · have := (List.getElem?_eq_some_iff.1 hgi).1; omega
    · exact h.out b k gg hb (known_of_mut hm) hg
  · intro i j q q' gg hij hi hj hq hq' hgi hgj
    rw [getElem?_snoc] at hi hj hgi hgj
    simp only [List.length_set] at hi hj
    have old : ∀ (i : Nat) (q : Blk), (H.set b k.dead)[i]? = some q → q.st.known = true → i ≠ b ∧ H[i]? = some q := fun i q hi hq => by
      rcases (set_get hb).1 hi with ⟨rfl, rfl⟩ | hi
      · cases hq
      · exact hi
    have mk : ∀ q : Blk, q.st.isMut = true → q.st.known = true := fun q hq => by cases hst : q.st <;> simp [St.isMut, St.known, hst] at hq ⊢
    rcases hi with hi | ⟨hi, rfl⟩
    · obtain ⟨hib, hi⟩ := old i q hi (mk q hq)
      rcases hgi with hgi | ⟨hgi, rfl⟩
      · rcases hj with hj | ⟨hj, rfl⟩
        · obtain ⟨hjb, hj⟩ := old j q' hj hq'
          rcases hgj with hgj | ⟨hgj, rfl⟩
          · exact h.inj i j q q' gg hij hi hj hq hq' hgi hgj
          · have := (List.getElem?_eq_some_iff.1 hj).1; omega
        · rcases hgj with hgj | ⟨hgj, rfl⟩
          · have := (List.getElem?_eq_some_iff.1 hgj).1; omega
          · exact h.inj b i k q gg (Ne.symm hib) hb hi hm (mk q hq) hg hgi
      · have := (List.getElem?_eq_some_iff.1 hi).1; omega
    · rcases hgi with hgi | ⟨hgi, rfl⟩
      · have := (List.getElem?_eq_some_iff.1 hgi).1; omega
      · rcases hj with hj | ⟨hj, rfl⟩
        · obtain ⟨hjb, hj⟩ := old j q' hj hq'
          rcases hgj with hgj | ⟨hgj, _⟩
          · exact h.inj b j k q' gg (Ne.symm hjb) hb hj hm hq' hg hgj
          · have := (List.getElem?_eq_some_iff.1 hj).1; omega
        · omega
  · intro i q gg hi hq hgi
    rw [getElem?_snoc] at hi hgi
    simp only [List.length_set] at hi
    rcases hi with hi | ⟨hi, rfl⟩
    · rcases (set_get hb).1 hi with ⟨rfl, rfl⟩ | ⟨hne, hi⟩
      · cases hq
      · rcases hgi with hgi | ⟨hgi, rfl⟩
        · obtain ⟨c, hc', hl'⟩ := h.blk i q gg hi hq hgi
          have hne2 : gg ≠ g := fun e => by subst e; exact h.inj b i k q gg (Ne.symm hne) hb hi hm hq hg hgi
          exact ⟨c, by rw [setRow_other w g gg _ hne2]; exact hc', hl'.carry hS.carry⟩
        · have := (List.getElem?_eq_some_iff.1 hi).1; omega
    · rcases hgi with hgi | ⟨hgi, rfl⟩
      · have := (List.getElem?_eq_some_iff.1 hgi).1; omega
      · exact ⟨cur', setRow_heap w gg cur cur' _ _ hc, hl.carry hS.carry⟩

section
variable {P : Program} {X μ : List Nat} {s : ASt} {a : Act} {w : World} {o : Oper} {L : List Nat}


/-- the rows of a slice, as they lie in memory -/
theorem arows_spec {H : List Blk} {v : AV} {u : Value} {r : List C} {rs : List (List C)} (hS : Sim X μ H w) (h : arows H v = some (r :: rs)) (hr : AV.rep (X ++ alive μ H) μ w v u) :
    ∃ ad c news, u = .slice (some ad) (rs.length + 1) c ∧ C.repl (X ++ alive μ H) μ w (r :: rs).flatten news ∧ (∀ (j : Nat) (u : Value), news[j]? = some u → w.cell? (ad.add j) = some u) := by
  unfold arows at h
  split at h
  · injection h with h
    subst h
    simp only [AV.rep, C.rep] at hr
    obtain ⟨p, cap, rfl, _, _, h3⟩ := hr
    rcases h3 with h3 | ⟨b, off, s', rfl, _, _, h3⟩
    · cases h3
    · obtain ⟨us, q1, _, q3⟩ := C.repss_vals h3
      exact ⟨⟨b, off, none⟩, cap, us, by simp, C.repl.carry Carry.any q1, fun j u hu => by rw [addr_add]; exact q3 j u hu⟩
  · rename_i s' b n
    split at h
    · rename_i k hb
      split at h
      · rename_i hk
        injection h with h
        simp only [AV.rep, C.rep] at hr
        obtain ⟨g, cap, hg, rfl, _, _, _⟩ := hr
        obtain ⟨cur, hc, hl⟩ := hS.blk b k g hb hk.1 hg
        obtain ⟨us, q1, _, q3⟩ := C.repss_vals (hl.repss hc)
        rw [h] at q1
        have hn : n = rs.length + 1 := by rw [← hk.2, h]; simp
        exact ⟨_, cap, us, by rw [hn], q1, fun j u hu => by rw [addr_add]; exact q3 j u hu⟩
      · cases h
    · cases h
  · cases h

theorem rowsLen_spec {n : Nat} {rows : List (List C)} (h : rowsLen n rows = true) : ∀ r ∈ rows, r.length = n := fun r hr => by
  have := List.all_eq_true.1 h r hr
  simpa using this

theorem Laid.take_append {cur : Array Value} {sz : Nat} {rows rows' : List (List C)} {olds news : List Value} (h1 : ∀ r ∈ rows, r.length = sz) (h2 : ∀ r ∈ rows', r.length = sz) (ho : C.repl L μ w rows.flatten olds) (hn : C.repl L μ w rows'.flatten news)
    (hc : ∀ (j : Nat) (u : Value), (olds ++ news)[j]? = some u → cur[j]? = some u) : Laid L μ w cur sz (rows ++ rows') :=
  Laid.flat (us := olds ++ news) (fun r hr => by rcases List.mem_append.1 hr with hr | hr; exact h1 r hr; exact h2 r hr) (by rw [List.flatten_append]; exact C.repl_append ho hn) hc

theorem op_append {t : TypeId} {x y : Operand} {vx vy v : AV} {h' : List Blk} (ho : o.op = .call ⟨.builtin .append, #[x, y], #[t, t]⟩) (hF : SimF X μ s a w) (hx : s.eval x = some vx) (hy : s.eval y = some vy) (hv : aappend P s.h t vx vy = .val v h') : OpOK P X μ s a w o v h' := by
  have h1 := hF.eval hx
  have h2 := hF.eval hy
  have exec : ∀ (u : Value) (w' : World), (Builtin.append_ #[t, t] o.type #[a.eval x, a.eval y]).run P w = .ok u w' → (execOp a.eval o).run P w = .ok (.value u) w' := fun u w' hr => by
    simp only [execOp, ho, resolve, invoke, builtin, Sem.run_bind, Sem.run_pure, Result.andThen_ok, List.map_toArray, List.map_cons, List.map_nil, hr]
  unfold aappend at hv
  split at hv
  · rename_i ti r rs hti hrows
    obtain ⟨i, d, z, hi, hd, hz, hzc, hzs, rfl⟩ := tinfo_spec hti
    obtain ⟨ad, c, news, he2, hnr, hnc⟩ := arows_spec hF.sim hrows h2
    split at hv
    · rename_i te hte
      obtain ⟨i', d', z', hi', hd', hz', hzc', hzs', rfl⟩ := tinfo_spec hte
      split at hv
      · rename_i hk
        obtain ⟨hk, _, hpos, hbp⟩ := hk
        obtain ⟨e, rfl⟩ := tkind_slice (tkindP_eq hk (by decide))
        simp only [telem] at hi'
        have hpos : 0 < i'.size := hpos
        have hbp : 0 < i'.bytes := hbp
        split at hv
        · split at hv
          · rename_i hcnd
            obtain ⟨hby, hrl⟩ := hcnd
            have hby : (rs.length + 1) * i'.bytes ≤ 140737488355328 := hby
            have hrl : rowsLen i'.size (r :: rs) = true := hrl
            injection hv with hv1 hv2
            subst hv1 hv2
            have hrl' := rowsLen_spec hrl
            have hnl : news.length = (rs.length + 1) * i'.size := by rw [C.repl_length hnr, flatten_length hrl']; simp
            have e1 := AV.sc_eq h1
            have hm63 : rs.length + 1 ≤ 140737488355328 := Nat.le_trans (Nat.le_mul_of_pos_right _ hbp) hby
            have hrun := run_append_nil (P := P) w t o.type e i' z' hd hi' hz' ad (rs.length + 1) c news hnl hnc (by omega) (by omega) (by omega)
            rw [← e1, ← he2] at hrun
            obtain ⟨q1, q2⟩ := hF.sim.new ((Keep.drew [] w).trans (Keep.alloc [] w.drew _) (by simp)) (heap_alloc_new w.drew _) (ty := e) (s := i'.size) (rows := r :: rs) (cur := news.toArray ++ Builtin.zeroCells z'.cells (grownCap w (rs.length + 1) 0 e - (rs.length + 1)))
              (Laid.flat hrl' hnr (fun j u hu => by rw [Array.getElem?_append_left (by have := (List.getElem?_eq_some_iff.1 hu).1; simpa using this)]; simpa using hu))
            have hge := grownCap_ge w (rs.length + 1) 0 e
            exact ⟨_, _, _, exec _ _ hrun, q1, q2, rep_row_new hF.sim.len hge (grownCap_le_maxLen w _ 0 e (by simp only [maxLen]; omega)) ⟨_, e, heap_alloc_new w.drew _, by
              rw [Array.size_append, List.size_toArray, size_zeroCells, hnl, hzs', ← Nat.add_mul]; congr 1; omega⟩⟩
          · cases hv
        · rename_i sx b n
          split at hv
          · rename_i k hb
            split at hv
            · rename_i hcnd
              obtain ⟨hby, hsx, hks, hkt, hm, hkn, hrl⟩ := hcnd
              have hsx : sx = i'.size := hsx
              subst hsx
              have hks : k.s = i'.size := hks
              have hkt : k.ty = e := hkt
              have hby : (n + (rs.length + 1)) * i'.bytes ≤ 140737488355328 := hby
              have hrl : rowsLen i'.size (r :: rs) = true := hrl
              injection hv with hv1 hv2
              subst hv1 hv2
              have hrl' := rowsLen_spec hrl
              have hnl : news.length = (rs.length + 1) * i'.size := by rw [C.repl_length hnr, flatten_length hrl']; simp
              have hno := C.repl_one hnr
              simp only [AV.rep, C.rep] at h1
              obtain ⟨g, cap, hg, e1, hncap, hcm, hrow⟩ := h1
              obtain ⟨cur, hc, hl⟩ := hF.sim.blk b k g hb (known_of_mut hm) hg
              have hcs : cur.size = cap * i'.size := by
                obtain ⟨cur2, ty2, hc2, hs2⟩ := hrow
                rw [hc] at hc2; cases hc2; exact hs2
              have hrows1 : ∀ r ∈ k.rows, r.length = i'.size := fun r hr => by
                obtain ⟨i0, hi0⟩ := List.getElem?_of_mem hr
                rw [← hks]; exact (hl i0 r hi0).1
              obtain ⟨us, hus, hul, huc⟩ := C.repss_vals (hl.repss hc)
              rw [hks] at hul
              have hucur : ∀ (j : Nat) (u : Value), us[j]? = some u → cur[j]? = some u := fun j u hu => by
                have := huc j u hu
                simp only [World.cell?, hc, Nat.zero_add] at this
                simpa using this
              have hm63 : n + (rs.length + 1) ≤ 140737488355328 := Nat.le_trans (Nat.le_mul_of_pos_right _ hbp) hby
              rw [hkt] at hc
              by_cases hroom : n + (rs.length + 1) ≤ cap
              · have hfit : n * i'.size + news.length ≤ cur.size := by rw [hnl, hcs, ← Nat.add_mul]; exact Nat.mul_le_mul_right _ hroom
                have hrun := run_append_room (P := P) w t o.type e i' hd hi' g n cap cur hc ad (rs.length + 1) c news hnl hnc hno hroom hfit
                rw [← e1, ← he2] at hrun
                have hn' : us.length = n * i'.size := by rw [hul, hkn]
                rw [← hkt] at hc
                obtain ⟨q1, q2⟩ := hF.sim.regrow (s := i'.size) (rows := k.rows ++ (r :: rs)) (cur' := (cur.toList.take (n * i'.size) ++ news ++ cur.toList.drop (n * i'.size + news.length)).toArray) hb hm hg hc (by simp; omega) (Laid.take_append hrows1 hrl' hus hnr (fun j u hu => by
                  rw [repl_at _ _ _ _ hfit]
                  by_cases hj : j < us.length
                  · rw [List.getElem?_append_left hj] at hu
                    rw [if_neg (by omega)]
                    exact hucur j u hu
                  · rw [List.getElem?_append_right (by omega)] at hu
                    have := (List.getElem?_eq_some_iff.1 hu).1
                    rw [if_pos (by omega), ← hu]
                    congr 1; omega))
                rw [hkt] at q1 q2
                refine ⟨_, _, _, exec _ _ hrun, q1, q2, ?_⟩
                simp only [AV.rep, C.rep]
                exact ⟨g, cap, getElem?_snoc.2 (.inr ⟨hF.sim.len.symm, rfl⟩), rfl, hroom, hcm, ⟨_, _, setRow_heap w g cur _ _ _ hc, by simp; omega⟩⟩
              · have holds : ∀ (j : Nat) (u : Value), us[j]? = some u → w.cell? ((⟨g, 0, none⟩ : Addr).add j) = some u := fun j u hu => by rw [addr_add]; exact huc j u hu
                have hrun := run_append_grow (P := P) w t o.type e i' z' hd hi' hz' ⟨g, 0, none⟩ n cap us (by rw [hul, hkn]) holds ad (rs.length + 1) c news hnl hnc (by omega) (by omega) (growslice_fits (by omega) hby)
                rw [← e1, ← he2] at hrun
                obtain ⟨d1, d2⟩ := hF.sim.kill hb
                obtain ⟨q1, q2⟩ := d1.new ((Keep.drew [] w).trans (Keep.alloc [] w.drew _) (by simp)) (heap_alloc_new w.drew _) (ty := e) (s := i'.size) (rows := k.rows ++ (r :: rs)) (cur := us.toArray ++ news.toArray ++ Builtin.zeroCells z'.cells (grownCap w (n + (rs.length + 1)) cap e - (n + (rs.length + 1))))
                  ((Laid.take_append hrows1 hrl' hus hnr (fun j u hu => by
                    have := (List.getElem?_eq_some_iff.1 hu).1
                    rw [Array.getElem?_append_left (by simpa using this)]
                    simpa using hu)).carry d2.carry)
                have hge := grownCap_ge w (n + (rs.length + 1)) cap e
                refine ⟨_, _, _, exec _ _ hrun, q1, d2.trans q2, ?_⟩
                have := rep_row_new (L := X ++ alive (μ ++ [w.heap.size]) (s.h.set b k.dead ++ [⟨i'.size, e, .mut, k.rows ++ (r :: rs)⟩])) (w' := w.drew.alloc (.cells (us.toArray ++ news.toArray ++ Builtin.zeroCells z'.cells (grownCap w (n + (rs.length + 1)) cap e - (n + (rs.length + 1)))) e)) (sz := i'.size) d1.len hge (grownCap_le_maxLen w _ cap e (by simp only [maxLen]; omega)) ⟨_, e, heap_alloc_new w.drew _, by
                  rw [Array.size_append, Array.size_append, List.size_toArray, List.size_toArray, size_zeroCells, hnl, hul, hkn, hzs', ← Nat.add_mul, ← Nat.add_mul]; congr 1; omega⟩
                rw [show (s.h.set b k.dead).length = s.h.length from by simp] at this
                exact this
            · cases hv
          · cases hv
        · cases hv
      · cases hv
    · cases hv
  · cases hv
end
end Go.Proofs.Sh
