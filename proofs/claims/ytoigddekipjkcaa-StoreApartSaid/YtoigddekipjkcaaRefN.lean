/- massifref5.Store.Push, New. -/
import Derived.Deep.RegionLaw
import Derived.Deep.DeepCutAuto
import Derived.Maps.AppendAt
import Derived.ArgAppend
import Derived.Test.YtoigddekipjkcaaRefP
namespace Go.Proofs.Ytoigddekipjkcaa
set_option linter.all false
open Go Go.RowKit Go.Proofs Go.Maps
theorem run_append_ref (w : World) (ty : TypeId) {v : Value} {L : List NL} (hr : RRow w v L) (b : Nat) (y : NL) (hb : w.heap[b]? = some (.cells (encR y).toArray 114 (0, 0))) (hL : L.length ≤ 1000000) :
    ∃ v' w', (Builtin.append_ #[89, 89] ty #[v, .slice (some ⟨b, 0, none⟩) 1 1]).run Try.prog w = .ok v' w' ∧
      RRow w' v' (L ++ [y]) ∧ w.grownBy w' v.ownBlock ∧ (v'.ownBlock = v.ownBlock ∨ ∃ g, v'.ownBlock = some g ∧ w.heap.size ≤ g) := by
  obtain ⟨i0, hi, hz0, hz1, hz2⟩ := info_parts infoR
  have hnews : ∀ j u, (encR y)[j]? = some u → w.cell? ((⟨b, 0, none⟩ : Addr).add j) = some u := fun j u hj => by
    rw [Addr.add_lit, cell_of hb]; simpa using hj
  have exact_ : w.ownsRow 0 114 34 v L.length (rowR L) → ∃ v' w', (Builtin.append_ #[89, 89] ty #[v, .slice (some ⟨b, 0, none⟩) 1 1]).run Try.prog w = .ok v' w' ∧
      RRow w' v' (L ++ [y]) ∧ w.grownBy w' v.ownBlock ∧ (v'.ownBlock = v.ownBlock ∨ ∃ g, v'.ownBlock = some g ∧ w.heap.size ≤ g) := fun hown => by
    obtain ⟨v', w', hrun, h1, h2, h3, h4⟩ := run_append_own_at (P := Try.prog) w 0 89 ty 114 i0 (.agg (nodeR (encH zH) false 0)) 34 48 Try.underlying89 hi hz0 hz1 hz2 (size_nodeR _ _ _) (by decide) _ _ _ hown ⟨b, 0, none⟩ 1 1 (encR y)
      (by rw [length_encR]) hnews (one_encR y) (by unfold maxLen; omega) (by omega) (Nat.zero_le _)
    refine ⟨v', w', hrun, RRow.of_own (base := 0) ?_, h2, h4.imp id (fun e => ⟨_, e, Nat.le_refl _⟩)⟩
    have e : rowR L ++ encR y = rowR (L ++ [y]) := by rw [rowR_append]; simp [rowR]
    rw [e] at h1
    simpa using h1
  rcases hr with ⟨rfl, hl⟩ | ⟨g, cap, cur, rfl, a2, a3, a4, a5, a7, a6⟩
  · refine exact_ ⟨by rw [length_rowR], .inl ⟨rfl, hl⟩⟩
  · rcases a7 with a7 | a7
    · exact exact_ ⟨by rw [length_rowR], .inr ⟨g, cap, cur, rfl, Nat.zero_le _, a2, a3, a4, a7, a6⟩⟩
    · have hsz : L.length * 34 ≤ cur.size := Nat.le_trans (Nat.mul_le_mul_right _ a3) a5
      have holds : ∀ j u, (rowR L)[j]? = some u → w.cell? ((⟨g, 0, none⟩ : Addr).add j) = some u := fun j u hj => by
        rw [Addr.add_lit, cell_of a2, Nat.zero_add]
        have hjl := (List.getElem?_eq_some_iff.1 hj).1
        rw [length_rowR] at hjl
        rw [← a6, List.getElem?_take, if_pos hjl] at hj
        simpa using hj
      obtain ⟨v', w', hrun, h1, h2⟩ := run_append_arg_grows (P := Try.prog) (w := w) 89 ty 114 i0 (.agg (nodeR (encH zH) false 0)) 34 48 Try.underlying89 hi hz0 hz1 hz2 (size_nodeR _ _ _) (by decide) ⟨g, 0, none⟩ L.length cap (rowR L) (length_rowR L) holds ⟨b, 0, none⟩ 1 1 (encR y)
        (by rw [length_encR]) hnews (by omega) (by unfold maxLen; omega) (by omega)
      have e : rowR L ++ encR y = rowR (L ++ [y]) := by rw [rowR_append]; simp [rowR]
      rw [e] at h1
      have h1' : w'.ownsRow w.heap.size 114 34 v' (L ++ [y]).length (rowR (L ++ [y])) := by simpa using h1
      refine ⟨v', w', hrun, RRow.of_own h1', ⟨h2.os, h2.tape, h2.output, h2.size, fun k hk _ => h2.block k hk (by simp)⟩, .inr ?_⟩
      rcases h1'.2 with ⟨rfl, e0⟩ | ⟨g', cap', cur', rfl, b1, b2, _⟩
      · simp at e0
      · exact ⟨g', rfl, b1⟩
theorem step_append_ref {ops : Array Oper} {o : Oper} {a : Act} {w : World} {K : Act → World → Prop} {Q : Exit → Act → World → Prop} {E : Prop}
    (hg : o.guard = none) (s x : Operand) (hop : o.op = Op.call { callee := Callee.builtin Builtin.append, args := #[s, x], argTypes := #[89, 89] })
    {v : Value} {L : List NL} (hs : a.eval s = v) (hr : RRow w v L) (b : Nat) (hx : a.eval x = .slice (some ⟨b, 0, none⟩) 1 1) (y : NL) (hb : w.heap[b]? = some (.cells (encR y).toArray 114 (0, 0))) (hL : L.length ≤ 1000000)
    (hK : ∀ v' w', RRow w' v' (L ++ [y]) → w.grownBy w' v.ownBlock → (v'.ownBlock = v.ownBlock ∨ ∃ g, v'.ownBlock = some g ∧ w.heap.size ≤ g) → K (a.put o.dst v') w') :
    if Region.wanted o (yielded ops a.tmps) = true then Oper.wp Try.prog o a w K Q else E := by
  have hw : Region.wanted o (yielded ops a.tmps) = true := by simp [Region.wanted, hg]
  rw [if_pos hw]
  obtain ⟨v', w', hrun, h1, h2, h3⟩ := run_append_ref w o.type hr b y hb hL
  unfold Oper.wp execOp
  simp only [hop, resolve, invoke, builtin, Sem.run_bind, Sem.run_pure, Result.andThen_ok, List.map_toArray, List.map_cons, List.map_nil, hs, hx, hrun]
  exact hK v' w' h1 h2 h3
section
variable {w : World} {rb log : Nat} {L : List NL} {G : Nat → Prop}
theorem push_close {W1 w3 : World} {ad ad3 : Option Addr} {cap cap3 : Nat} {o : Obj} {x : HB} (h1 : W1.heap[rb]? = some (refCells log (.slice ad L.length cap))) (h3 : G rb) (h4 : ∀ j, (Value.slice ad L.length cap).ownBlock = some j → G j) (h5 : ∀ j, G j → j < W1.heap.size)
    (hne : (Value.slice ad L.length cap).ownBlock ≠ some rb) (hr3 : RRow w3 (.slice ad3 (L ++ [(some x, 0)]).length cap3) (L ++ [(some x, 0)])) (hg3 : ((W1.alloc o).drew).grownBy w3 (Value.slice ad L.length cap).ownBlock)
    (hl3 : (Value.slice ad3 (L ++ [(some x, 0)]).length cap3).ownBlock = (Value.slice ad L.length cap).ownBlock ∨ ∃ g, (Value.slice ad3 (L ++ [(some x, 0)]).length cap3).ownBlock = some g ∧ ((W1.alloc o).drew).heap.size ≤ g) :
    RRow (w3.setCell ⟨rb, 1, none⟩ (.slice ad3 (L.length + 1) cap3)) (.slice ad3 (L.length + 1) cap3) (L ++ [(some x, 0)]) ∧ (w3.setCell ⟨rb, 1, none⟩ (.slice ad3 (L.length + 1) cap3)).heap[rb]? = some (refCells log (.slice ad3 (L.length + 1) cap3)) ∧
      Fr G W1 (w3.setCell ⟨rb, 1, none⟩ (.slice ad3 (L.length + 1) cap3)) ∧ ((Value.slice ad L.length cap).ownBlock = (Value.slice ad3 (L.length + 1) cap3).ownBlock ∨ ∃ g, (Value.slice ad3 (L.length + 1) cap3).ownBlock = some g ∧ W1.heap.size ≤ g) := by
  have e : (L ++ [((some x, 0) : NL)]).length = L.length + 1 := by simp
  rw [e] at hr3 hl3
  have hrb : rb < W1.heap.size := hb_lt h1
  have hw3 : w3.heap[rb]? = some (refCells log (.slice ad L.length cap)) :=
    (hg3.block rb (by simp; omega) (fun e => hne e.symm)).trans ((Below.heap_alloc W1 _ rb hrb).trans h1)
  have hl3' : (Value.slice ad L.length cap).ownBlock = (Value.slice ad3 (L.length + 1) cap3).ownBlock ∨ ∃ g, (Value.slice ad3 (L.length + 1) cap3).ownBlock = some g ∧ W1.heap.size ≤ g := by
    rcases hl3 with h | ⟨g, h, h'⟩
    · exact .inl h.symm
    · exact .inr ⟨g, h, by simp at h'; omega⟩
  refine ⟨hr3.same (fun j hj => Below.heap_setCell w3 _ _ j (fun e => ?_)), ?_, ?_, hl3'⟩
  · have e' : j = rb := e
    subst e'
    rcases hl3' with h | ⟨g, h, h'⟩
    · exact hne (h.trans hj)
    · rw [h] at hj; cases hj; omega
  · have := hb_setCell_same (i := 1) hw3 (.slice ad3 (L.length + 1) cap3)
    unfold refCells
    simpa using this
  · refine Fr.setCell ?_ _ _ (fun _ => h3)
    refine (((Fr.refl G W1).alloc o).drew).trans (Fr.of_grownBy hg3) (fun _ h => h) (fun j hj e => ?_)
    exact h4 j e
def RPushPost (w : World) (rb log : Nat) (L : List NL) (G : Nat → Prop) (x : HB) (e : Ending) (w' : World) : Prop :=
  e = .returned (.int .u64 (L.length : Int)) ∧ ∃ G', RefAt w' rb log (L ++ [(some x, 0)]) G' ∧ Turns w w' G G'
set_option maxRecDepth 100000 in
theorem RPush_any (h : RefAt w rb log L G) (hL : L.length ≤ 1000000) (x : HB) : Calls Try.prog 50 #[.pointer (some ⟨rb, 0, none⟩), .agg (encH x)] w (RPushPost w rb log L G x) := by
  have H := Lib.hid h; clear h
  go_enter Try.func50, Try.ntmps50
  go_upto_region 1 with fail
  refine wp_name fun W1 HW1 => ?_
  have hb0 : Below w.heap.size w W1 := by rw [HW1.out]; exact (Below.refl _ _).alloc (Nat.le_refl _) _
  have hrx : rowAt W1 ⟨w.heap.size, 0, none⟩ 32 = some (encH x) := by rw [HW1.out]; exact rowAt_whole (hb_new w _) (size_encH _).symm
  have hs1 : W1.heap.size = w.heap.size + 1 := by rw [HW1.out]; simp
  clear HW1
  obtain ⟨v, h1, h2, h3, h4, h5⟩ := H.out.below hb0
  obtain ⟨ad, cap, rfl⟩ := h2.shape
  have c1 : W1.cell? ⟨rb, 1, none⟩ = some (.slice ad L.length cap) := cell_of h1
  have f1 : W1.frozen? ⟨rb, 1, none⟩ = false := frozen_of h1
  have hrbs : rb < W1.heap.size := hb_lt h1
  have HNE : Hid ((Value.slice ad L.length cap).ownBlock ≠ some rb) := by
    intro e
    rcases h2 with ⟨e1, _⟩ | ⟨g, c, cur, e1, a1, _⟩
    · rw [e1] at e; simp [Value.ownBlock] at e
    · rw [e1] at e; simp [Value.ownBlock] at e; subst e; exact ne_type h1 a1 (by decide) rfl
  have HH1 := Lib.hid h1; clear h1
  have HH2 := Lib.hid h2; clear h2
  have HH3 := Lib.hid h3; clear h3
  have HH4 := Lib.hid h4; clear h4
  have HH5 := Lib.hid h5; clear h5
  have HB0 := Lib.hid hb0; clear hb0
  have HRR : Hid (RRow (W1.drew.alloc (.cells (nodeR (encH x) true 0) 114)) (.slice ad L.length cap) L) := HH2.out.same (fun j hj => Below.heap_alloc W1.drew _ j (HH5.out j (HH4.out j hj)))
  have HBB : Hid ((W1.drew.alloc (.cells (nodeR (encH x) true 0) 114)).heap[w.heap.size + 1]? = some (.cells (encR (some x, 0)).toArray 114 (0, 0))) := by
    unfold Hid
    have := hb_new W1.drew (.cells (nodeR (encH x) true 0) 114)
    rw [show W1.drew.heap.size = w.heap.size + 1 from hs1] at this
    rw [this, show nodeR (encH x) true 0 = _ from nodeR_enc (some x, 0)]
  have HF3 : Hid (∀ w3, (W1.drew.alloc (.cells (nodeR (encH x) true 0) 114)).grownBy w3 (Value.slice ad L.length cap).ownBlock → w3.heap[rb]? = some (refCells log (.slice ad L.length cap))) := by
    intro w3 hg
    refine (hg.block rb (by simp; omega) (fun e => ?_)).trans ((Below.heap_alloc W1.drew _ rb hrbs).trans HH1.out)
    exact HNE.out e.symm
  have c1a := cell_alloc_old (o := .cells (nodeR (encH x) true 0) 114) c1
  go_cut [13] (fun v' wx => RRow wx v' (L ++ [(some x, 0)]) ∧ wx.heap[rb]? = some (refCells log v') ∧ Fr G W1 wx ∧ ((Value.slice ad L.length cap).ownBlock = v'.ownBlock ∨ ∃ g, v'.ownBlock = some g ∧ W1.heap.size ≤ g))
  case first =>
    go_region_law (refine step_append_ref rfl _ _ rfl (L := L) rfl HRR.out (w.heap.size + 1) rfl (some x, 0) HBB.out hL ?_; intro v' w3 hr3 hg3 hl3; obtain ⟨ad3, cap3, rfl⟩ := hr3.shape; have f3 : w3.frozen? ⟨rb, 1, none⟩ = false := frozen_of (HF3.out w3 hg3); have c3 : w3.cell? ⟨rb, 1, none⟩ = some (.slice ad L.length cap) := cell_of (HF3.out w3 hg3))
    all_goals (go_wp2_with fail; go_meet; exact push_close (x := x) HH1.out HH3.out HH4.out HH5.out HNE.out hr3 hg3 hl3)
  case rest =>
    obtain ⟨hr, hrb, hF, hl⟩ := hcut
    obtain ⟨ad2, cap2, rfl⟩ := hr.shape
    have c2 : wc.cell? ⟨rb, 1, none⟩ = some (.slice ad2 (L ++ [(some x, 0)]).length cap2) := cell_of hrb
    have HR := Lib.hid hr; clear hr
    have HRB := Lib.hid hrb; clear hrb
    have HF := Lib.hid hF; clear hF
    have HL := Lib.hid hl; clear hl
    rw [List.length_append, List.length_singleton] at c2
    have hwl := wrapL hL
    go_wp2_with fail
    go_ret
    refine ⟨rfl, fun j => G j ∨ (Value.slice ad2 (L ++ [(some x, 0)]).length cap2).ownBlock = some j, ?_, ?_⟩
    · refine ⟨_, HRB.out, HR.out, .inl HH3.out, fun j hj => .inr hj, fun j hj => ?_⟩
      rcases hj with hj | hj
      · exact Nat.lt_of_lt_of_le (HH5.out j hj) HF.out.size
      · rcases HR.out with ⟨e, _⟩ | ⟨g, c, cur, e, h1, _⟩
        · rw [e] at hj; simp [Value.ownBlock] at hj
        · rw [e] at hj; simp [Value.ownBlock] at hj; subst hj; exact hb_lt h1
    · refine ⟨fun j hj => ?_, (Fr.of_below (S := G) HB0.out).trans HF.out (fun _ h => h) (fun _ _ h => h)⟩
      rcases hj with hj | hj
      · exact .inl hj
      · rcases HL.out with hl | ⟨g, hg, hge⟩
        · exact .inl (HH4.out j (hl.trans hj))
        · rw [hg] at hj; cases hj; exact .inr (Nat.le_trans HB0.out.size hge)
theorem RNew_out (x : Int) (w : World) (h : x < 0 ∨ 16 < x) (h1 : -9223372036854775808 ≤ x) (h2 : x ≤ 9223372036854775807) :
    Calls Try.prog 36 #[.int .i64 x] w fun e w' => e = .returned (.tuple #[.pointer none, .int .i64 1]) ∧ w = w' := by
  by_cases h0 : x < 0
  · go_enter Try.func36, Try.ntmps36
    go_wp2
    go_ret2
    exact ⟨rfl, rfl⟩
  · have h16 : 16 < x := by omega
    go_enter Try.func36, Try.ntmps36
    go_wp2
    go_ret2
    exact ⟨rfl, rfl⟩
def RNewPost (log : Nat) (w : World) (e : Ending) (w' : World) : Prop :=
  ∃ rb G, e = .returned (.tuple #[.pointer (some ⟨rb, 0, none⟩), .int .i64 0]) ∧ RefAt w' rb log [] G ∧ (∀ j, G j → w.heap.size ≤ j) ∧ Below w.heap.size w w'
set_option maxRecDepth 100000 in
theorem RNew_good (log : Nat) (w : World) (hl : log ≤ 16) : Calls Try.prog 36 #[.int .i64 (log : Int)] w (RNewPost log w) := by
  have h1 : ¬ (log : Int) < 0 := by omega
  have h2 : ¬ (16 : Int) < log := by omega
  go_enter Try.func36, Try.ntmps36
  go_wp2_with fail
  go_ret2
  refine ⟨w.heap.size, fun j => j = w.heap.size, rfl, ⟨.slice none 0 0, ?_, .inl ⟨rfl, rfl⟩, rfl, fun j hj => by simp [Value.ownBlock] at hj, fun j hj => by subst hj; simp⟩, fun j hj => by subst hj; exact Nat.le_refl _, (Below.refl _ w).alloc (Nat.le_refl _) _⟩
  exact hb_new w _
end
end Go.Proofs.Ytoigddekipjkcaa
