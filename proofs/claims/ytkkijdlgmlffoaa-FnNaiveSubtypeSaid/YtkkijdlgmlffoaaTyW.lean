/- The walks of the functions on types. -/
import Derived.Test.YtkkijdlgmlffoaaOwn
namespace Go.Proofs.Ytkkijdlgmlffoaa
open Go.RowKit Go.Proofs.Grad

/-- element i of a list meets the test by this call, whenever the list lies in memory -/
def TestC (f : FuncId) (caps : Array Value) (W : World) (p : Ty → Bool) (l : List Ty) : Prop :=
  ∀ (i : Nat) (h : i < l.length) (w : World) q c, Below W.heap.size W w → TysRep [] w l[i].kids q c → Calls Try.prog f (#[.agg #[.int .i64 l[i].kind, .slice q l[i].kids.length c]] ++ caps) w (RetB w (p l[i]))

set_option maxHeartbeats 400000 in
theorem IndexFunc (f : FuncId) (caps : Array Value) (hfn : IsFn Try.prog f) (p : Ty → Bool) (l : List Ty) (W w : World) (hW : Below W.heap.size W w) (hT : TestC f caps W p l) (q : Option Addr) (c : Nat) (hr : TysRep [] w l q c) :
    Calls Try.prog 74 #[.slice q l.length c, .func (.func f) #[] caps] w (RetI w (findI p l)) := by
  unfold IsFn at hfn
  have hlen := hr.len
  have hcap : c ≤ 9223372036854775807 := hlen.2
  have hl := hlen.1
  clear hlen
  go_enter Try.func74, Try.ntmps74
  go_wp2_with fail
  go_loopw [8] (fun iv wr => ∃ (k : Nat), k ≤ l.length ∧ iv = .int .i64 k ∧ (∀ t ∈ l.take k, p t = false) ∧ Below w.heap.size w wr) (fun iv _ => l.length - (intOf iv).toNat)
  case atStart => exact ⟨0, Nat.zero_le _, rfl, by simp, Below.refl _ _⟩
  case round =>
    obtain ⟨k, hk, rfl, hno, hbw⟩ := hrel
    have HNO := Lib.hid hno; clear hno
    by_cases hkl : k < l.length
    · obtain ⟨b, off, rfl, hbL, hc0, q', c', hc1, hr'⟩ := (hr.keep (Keep.of_below hbw)).at hkl
      have hat := hT k hkl wr q' c' (hW.trans (hbw.mono hW.size)) hr'
      have h1 := fun h : p l[k] = true => findI_at p l k hkl HNO.out h
      have h2 := fun h : p l[k] = false => take_false hkl HNO.out h
      generalize hE : l[k] = t at *
      have HE := Lib.hid hE; clear hE
      cases hp : p t
      · rw [hp] at hat
        have H2 := Lib.hid (h2 hp); clear h1 h2 hp
        have HAT := Lib.hid hat; clear hat
        go_wp2_with fail
        refine HAT.out.mono ?_
        rintro e w1 ⟨rfl, hb⟩
        go_wp2_with fail
        go_roundw
        case rel => exact ⟨k + 1, by omega, by go_num, H2.out, hbw.trans (hb.mono hbw.size)⟩
        case measure => simp [intOf]; omega
      · rw [hp] at hat
        have H1 := Lib.hid (h1 hp); clear h1 h2 hp
        have HAT := Lib.hid hat; clear hat
        go_wp2_with fail
        refine HAT.out.mono ?_
        rintro e w1 ⟨rfl, hb⟩
        go_wp2_with fail
        go_ret
        exact ⟨by rw [H1.out]; rfl, hbw.trans (hb.mono hbw.size)⟩
    · go_wp2_with fail
      go_ret
      refine ⟨?_, hbw⟩
      rw [findI_none p l (fun t ht => HNO.out t (by rw [List.take_of_length_le (by omega)]; exact ht))]; rfl

/-- 'for every element not': the test is met in whatever world -/
theorem ContainsFunc (f : FuncId) (caps : Array Value) (hfn : IsFn Try.prog f) (p : Ty → Bool) (l : List Ty) (W w : World) (hW : Below W.heap.size W w) (hT : TestC f caps W p l) (q : Option Addr) (c : Nat) (hr : TysRep [] w l q c) :
    Calls Try.prog 69 #[.slice q l.length c, .func (.func f) #[] caps] w (RetB w (l.any p)) := by
  have h1 := IndexFunc f caps hfn p l W w hW hT q c hr
  have h2 := findI_any p l
  generalize findI p l = z at *
  go_enter Try.func69, Try.ntmps69
  have H1 := Lib.hid h1; have H2 := Lib.hid h2; clear h1 h2
  go_wp2_with fail
  refine H1.out.mono ?_
  rintro e w1 ⟨rfl, hb⟩
  go_wp2_with fail
  go_ret
  exact ⟨by rw [← H2.out]; rfl, hb⟩

theorem fn_scan1 : IsFn Try.prog 70 := by intro args w; kernel_rfl

def ScanN (m : Nat) : Prop := ∀ (t : Ty) (d : Int) (w : World) q c, d + m = 5 → TysRep [] w t.kids q c →
    Calls Try.prog 52 #[.agg #[.int .i64 t.kind, .slice q t.kids.length c], .int .i64 d] w (RetB w (t.shape m))

theorem scan1 (m : Nat) (ih : ScanN m) (hm : m ≤ 3) (t : Ty) (d : Int) (w : World) (q c) (r : Nat) (hd : d + m = 4) (hrc : w.cell? ⟨r, 0, none⟩ = some (.int .i64 d)) (hr : TysRep [] w t.kids q c) :
    Calls Try.prog 70 #[.agg #[.int .i64 t.kind, .slice q t.kids.length c], .pointer (some ⟨r, 0, none⟩)] w (RetB w (!t.shape m)) := by
  have h1 := ih t (d + 1) (w.alloc (.cells #[.int .i64 t.kind, .slice q t.kids.length c] 29)) q c (by omega) (hr.keep (Keep.alloc _ _ _))
  have hlt := lt_of_cell hrc
  have hd1 : d ≤ 4 := by omega
  have hd2 : 1 ≤ d := by omega
  have H1 := Lib.hid h1; clear h1 hd
  go_enter Try.func70, Try.ntmps70
  go_wp2_with fail
  refine H1.out.mono ?_
  rintro e w1 ⟨rfl, hb⟩
  go_wp2_with fail
  go_ret
  exact ⟨rfl, ((Below.refl _ _).alloc (Nat.le_refl _) _).trans (hb.mono (by simp))⟩

set_option maxHeartbeats 400000 in
theorem scan_step (m : Nat) (ih : ScanN m) (hm : m ≤ 3) : ScanN (m + 1) := by
  intro t d w q c hd hr
  obtain ⟨k, l⟩ := t
  simp only [Ty.kind, Ty.kids] at hr ⊢
  have hd1 : d ≤ 4 := by omega
  have hd2 : 1 ≤ d := by omega
  have hlen := hr.len.1
  have hT : TestC 70 #[.pointer (some ⟨w.heap.size + 1, 0, none⟩)] ((w.alloc (.cells #[.int .i64 k, .slice q l.length c] 29)).alloc (.cells #[.int .i64 d] 3)) (fun t => !t.shape m) l := by
    intro i hi w' q' c' hb hr'
    refine scan1 m ih hm _ d w' q' c' (w.heap.size + 1) (by omega) ?_ hr'
    have := hb.cell (p := ⟨w.heap.size + 1, 0, none⟩) (by simp)
    rw [this]
    simp
  have hC := fun (w' : World) (hb : Below ((w.alloc (.cells #[.int .i64 k, .slice q l.length c] 29)).alloc (.cells #[.int .i64 d] 3)).heap.size ((w.alloc (.cells #[.int .i64 k, .slice q l.length c] 29)).alloc (.cells #[.int .i64 d] 3)) w') =>
    ContainsFunc 70 #[.pointer (some ⟨w.heap.size + 1, 0, none⟩)] fn_scan1 (fun t => !t.shape m) l _ w' hb hT q c (hr.keep (((Keep.alloc _ _ _).trans (Keep.alloc _ _ _)).trans (Keep.of_below hb)))
  have hsh : Ty.shape (m + 1) (.mk k l) = ((kidsN k == (l.length : Int)) && !(l.any fun t => !t.shape m)) := by
    simp [Ty.shape, Ty.kind, Ty.kids, List.all_eq_not_any_not]
  rw [hsh]
  have HT := Lib.hid hT; have HC := Lib.hid hC; clear hT hC hsh hd
  generalize hA : (l.any fun t => !t.shape m) = bb at *
  have HA := Lib.hid hA; clear hA
  generalize hR : ((kidsN k == (l.length : Int)) && !bb) = res
  have HR := Lib.hid hR; clear hR
  go_enter Try.func52, Try.ntmps52
  go_wp2_with (go_at_call 69; refine (HC.out _ (Below.refl _ _)).mono ?_; rintro e w1 ⟨rfl, hb⟩)
  all_goals go_ret
  all_goals refine ⟨?_, ?_⟩
  all_goals first
    | exact ((Below.refl _ _).alloc (Nat.le_refl _) _).alloc (by simp) _
    | exact (((Below.refl _ _).alloc (Nat.le_refl _) _).alloc (by simp) _).trans (hb.mono (by simp; omega))
    | (rw [← HR.out]; unfold kidsN; simp_all; done)
    | (rw [← HR.out]; unfold kidsN; simp_all; omega)
end Go.Proofs.Ytkkijdlgmlffoaa
