/- massifref22.Find: Add, Leaf, Cut, At. -/
import Derived.Test.YtoigddekipjkcaaFindC
namespace Go.Proofs.Ytoigddekipjkcaa
set_option linter.all false
open Go Go.RowKit Go.Proofs Go.Maps
open Go.ChangeMaps (setBlock)

theorem cell_of_rowAt {w : World} {b o n j : Nat} {c : Array Value} (h : rowAt w ⟨b, o, none⟩ n = some c) (hj : j < n) : w.cell? ⟨b, o + j, none⟩ = c[j]? := by
  unfold rowAt at h
  split at h
  · rename_i cs t f hb
    split at h
    · rename_i hc
      simp only [Option.some.injEq] at h
      subst h
      rw [cell_of hb, Array.getElem?_extract, if_pos]
      have := hc.2; simp only at this ⊢; omega
    · cases h
  · cases h
theorem rowH_get (hs : List HB) (i j : Nat) (x : HB) (h : hs[i]? = some x) (hj : j < 32) : (rowH hs)[i * 32 + j]? = (encH x)[j]? := by
  have := rowH_at hs i x h
  have e : (((rowH hs).drop (i * 32)).take 32)[j]? = (encH x).toList[j]? := by rw [this]
  rw [List.getElem?_take, if_pos hj, List.getElem?_drop] at e
  rw [e]; simp
theorem hashRow_cells {w : World} {ad : Addr} {n cap : Nat} {hs : List HB} (h : HashRow w (.slice (some ad) n cap) hs) : ∀ j u, (rowH hs)[j]? = some u → w.cell? (ad.add j) = some u := by
  intro j u hj
  obtain ⟨ad2, cap2, e, hr⟩ := h
  have hjl := (List.getElem?_eq_some_iff.1 hj).1
  rw [length_rowH] at hjl
  have hi : j / 32 < hs.length := by omega
  obtain ⟨b, o, e2, hrow⟩ := hr (j / 32) hs[j / 32] (List.getElem?_eq_getElem hi)
  have hjj : j / 32 * 32 + j % 32 = j := Nat.div_add_mod' j 32
  have h1 := cell_of_rowAt hrow (Nat.mod_lt j (by omega : 0 < 32))
  have h2 := rowH_get hs (j / 32) (j % 32) hs[j / 32] (List.getElem?_eq_getElem hi) (Nat.mod_lt j (by omega))
  rw [hjj, hj] at h2
  rw [← h2] at h1
  simp at e
  obtain ⟨rfl, _⟩ := e
  simp at e2
  subst e2
  rw [Addr.add_lit]
  have e3 : o + j / 32 * 32 + j % 32 = o + j := by omega
  rw [e3] at h1
  exact h1
theorem size_H (w : World) : (Sem.run Try.prog (sizeOf 30) w) = .ok 32 w := aggH.size w
theorem run_append_noneH (w : World) (ty : TypeId) (a : Addr) (n c c2 : Nat) (hn : n ≤ c) :
    (Builtin.append_ #[26, 26] ty #[.slice (some a) n c, .slice none 0 c2]).run Try.prog w = .ok (.slice (some a) n c) w := by
  have hu : Sem.run Try.prog (underlying 26) w = .ok (.slice 30) w := run_underlying Try.underlying26 w
  unfold Builtin.append_
  simp [Sem.run_bind, hu, size_H, Builtin.lenOf, Builtin.firstCells, hn, storeCells]
/-- 'append(a row of the call's own, hs..)', hs wherever they lie. -/
theorem run_append_hashes (w : World) (ty : TypeId) (base : Nat) (ad0 : Addr) (cap0 : Nat) (xs hs : List HB) (hown : HOwn w base (.slice (some ad0) xs.length cap0) xs)
    (v : Value) (hr : HashRow w v hs) (hlen : xs.length + hs.length ≤ 1000000) (hbase : base ≤ w.heap.size) :
    ∃ ad cap w', (Builtin.append_ #[26, 26] ty #[.slice (some ad0) xs.length cap0, v]).run Try.prog w = .ok (.slice (some ad) (xs ++ hs).length cap) w' ∧
      HOwn w' base (.slice (some ad) (xs ++ hs).length cap) (xs ++ hs) ∧ w.grownBy w' (some ad0.block) ∧ (ad.block = ad0.block ∨ ad.block = w.heap.size) := by
  have hr' := hr
  obtain ⟨ad, cap, rfl, hrow⟩ := hr
  cases ad with
  | none =>
    have hk : hs = [] := by
      cases hs with
      | nil => rfl
      | cons k ks => obtain ⟨b, o, e, _⟩ := hrow 0 k rfl; cases e
    subst hk
    have hc : xs.length ≤ cap0 := HOwn.cap hown
    have hrun := run_append_noneH w ty ad0 xs.length cap0 cap hc
    exact ⟨ad0, cap0, w, by simpa using hrun, by simpa using hown, ⟨rfl, rfl, rfl, Nat.le_refl _, fun _ _ _ => rfl⟩, .inl rfl⟩
  | some ad =>
    obtain ⟨i0, hi, hz0, hz1, hz2⟩ := info_parts infoH
    obtain ⟨v', w', hrun, h1, h2, h3, h4⟩ := run_append_own_at (P := Try.prog) w base 26 ty 30 i0 (.agg (encH zH)) 32 32 Try.underlying26 hi hz0 hz1 hz2 (size_encH _) (by decide) _ _ _ hown ad hs.length cap (rowH hs) (length_rowH _)
      (hashRow_cells hr') (one_rowH _) (by unfold maxLen; omega) (by omega) hbase
    have e2 : xs.length + hs.length = (xs ++ hs).length := by simp
    rw [← rowH_append, e2] at h1
    obtain ⟨ad', cap', rfl⟩ := ownsRow_shape h1
    cases ad' with
    | none =>
      exfalso
      have h5 : (Value.slice none (xs ++ hs).length cap') = .slice none 0 0 := by
        rcases h1.2 with ⟨e, _⟩ | ⟨g, c', cur, e, _⟩
        · exact e
        · cases e
      have := (h3.1 h5).1
      cases this
    | some ad' =>
      exact ⟨ad', cap', w', hrun, h1, (by simpa [Value.ownBlock] using h2), (by simpa [Value.ownBlock] using h4)⟩
theorem wpList_append_hashes {ops : Array Oper} {rest : List Oper} {o : Oper} {a : Act} {Q : Exit → Act → World → Prop} (w : World) (hgd : Region.wanted o (yielded ops a.tmps) = true) (s x : Operand)
    (ho : o.op = .call { callee := .builtin .append, args := #[s, x], argTypes := #[26, 26] })
    (base : Nat) (ad0 : Addr) (cap0 : Nat) (xs hs : List HB) (hs' : a.eval s = .slice (some ad0) xs.length cap0) (hown : HOwn w base (.slice (some ad0) xs.length cap0) xs)
    (v : Value) (hx : a.eval x = v) (hr : HashRow w v hs) (hlen : xs.length + hs.length ≤ 1000000) (hbase : base ≤ w.heap.size)
    (h : ∀ ad cap w', HOwn w' base (.slice (some ad) (xs ++ hs).length cap) (xs ++ hs) → w.grownBy w' (some ad0.block) → (ad.block = ad0.block ∨ ad.block = w.heap.size) → wpList Try.prog ops Q rest (a.put o.dst (.slice (some ad) (xs ++ hs).length cap)) w') :
    wpList Try.prog ops Q (o :: rest) a w := by
  refine wpList_step fun K' hK' => ?_
  rw [if_pos hgd]
  obtain ⟨ad, cap, w', hrun, h1, h2, h3⟩ := run_append_hashes w o.type base ad0 cap0 xs hs hown v hr hlen hbase
  unfold Oper.wp execOp
  simp only [ho, resolve, invoke, builtin, Sem.run_bind, Sem.run_pure, Result.andThen_ok, List.map_toArray, List.map_cons, List.map_nil, hs', hx, hrun]
  exact hK' _ _ (h ad cap w' h1 h2 h3)
/-! ### the reference -/
def RFAt (w : World) (rb : Nat) (L : List HB) (G : Nat → Prop) : Prop :=
  ∃ v, w.heap[rb]? = some (.cells #[v] 28 (0, 0)) ∧ HOwn w 0 v L ∧ G rb ∧ (∀ j, v.ownBlock = some j → G j) ∧ (∀ j, G j → j < w.heap.size)
theorem RFAt.kept {w w' : World} {rb : Nat} {L : List HB} {G : Nat → Prop} (h : RFAt w rb L G) (hs : w.heap.size ≤ w'.heap.size) (hb : ∀ j, G j → w'.heap[j]? = w.heap[j]?) : RFAt w' rb L G := by
  obtain ⟨v, h1, h2, h3, h4, h5⟩ := h
  exact ⟨v, (hb rb h3).trans h1, h2.same (fun j hj => hb j (h4 j hj)), h3, h4, fun j hj => Nat.lt_of_lt_of_le (h5 j hj) hs⟩
theorem RFAt.lt {w : World} {rb : Nat} {L : List HB} {G : Nat → Prop} (h : RFAt w rb L G) : ∀ j, G j → j < w.heap.size := by obtain ⟨v, h1, h2, h3, h4, h5⟩ := h; exact h5
theorem RFAt.below {w w' : World} {rb : Nat} {L : List HB} {G : Nat → Prop} (h : RFAt w rb L G) (hb : Below w.heap.size w w') : RFAt w' rb L G :=
  h.kept hb.size (fun j hj => hb.block j (h.lt j hj))
theorem RFAt.fr {w w' : World} {rb : Nat} {L : List HB} {G S : Nat → Prop} (h : RFAt w rb L G) (hf : Fr S w w') (hd : ∀ j, G j → ¬ S j) : RFAt w' rb L G :=
  h.kept hf.size (fun j hj => hf.block j (h.lt j hj) (hd j hj))
theorem RFAt.slice {w : World} {rb : Nat} {L : List HB} {G : Nat → Prop} (h : RFAt w rb L G) : ∃ ad cap, w.cell? ⟨rb, 0, none⟩ = some (.slice ad L.length cap) ∧ rb < w.heap.size ∧ HashRow w (.slice ad L.length cap) L := by
  obtain ⟨v, h1, h2, h3, h4, h5⟩ := h
  have hr := h2.row
  obtain ⟨ad, cap, rfl⟩ := ownsRow_shape h2
  exact ⟨ad, cap, cell_of h1, hb_lt h1, hr⟩
/-- Leaf i, read. -/
theorem RFAt.leaf {w : World} {rb : Nat} {L : List HB} {G : Nat → Prop} (h : RFAt w rb L G) {i : Nat} {x : HB} (hx : L[i]? = some x) : ∃ g o cap, w.cell? ⟨rb, 0, none⟩ = some (.slice (some ⟨g, o, none⟩) L.length cap) ∧ rowAt w ⟨g, o + i * 32, none⟩ 32 = some (encH x) := by
  obtain ⟨ad, cap, c, _, ad2, cap2, e, hr⟩ := h.slice
  obtain ⟨g, o, e2, hrow⟩ := hr i x hx
  simp at e
  obtain ⟨rfl, rfl⟩ := e
  subst e2
  exact ⟨g, o, cap, c, hrow⟩
section
variable {w : World} {rb : Nat} {L : List HB} {G : Nat → Prop}
theorem rf_close {W1 w3 : World} {ad : Option Addr} {cap : Nat} {x : HB} (h1 : W1.heap[rb]? = some (.cells #[.slice ad L.length cap] 28 (0, 0))) (h2 : HOwn W1 0 (.slice ad L.length cap) L) (h3 : G rb) (h4 : ∀ j, (Value.slice ad L.length cap).ownBlock = some j → G j) (h5 : ∀ j, G j → j < W1.heap.size) {v3 : Value} {o : Obj}
    (hr : HOwn w3 0 v3 (L ++ [x])) (hg : ((W1.alloc o).drew).grownBy w3 (Value.slice ad L.length cap).ownBlock) (hl : v3.ownBlock = (Value.slice ad L.length cap).ownBlock ∨ v3.ownBlock = some ((W1.alloc o).drew).heap.size) :
    ∃ G', RFAt (w3.setCell ⟨rb, 0, none⟩ v3) rb (L ++ [x]) G' ∧ Turns W1 (w3.setCell ⟨rb, 0, none⟩ v3) G G' := by
  have hrb : rb < W1.heap.size := hb_lt h1
  have hne : (Value.slice ad L.length cap).ownBlock ≠ some rb := own_ne h1 h2 (by decide)
  have hsz : W1.heap.size + 1 ≤ w3.heap.size := by have := hg.size; simpa using this
  have hk : ∀ j, j < W1.heap.size → (Value.slice ad L.length cap).ownBlock ≠ some j → w3.heap[j]? = W1.heap[j]? := fun j hj hn =>
    (hg.block j (by simp; omega) (fun e => hn e.symm)).trans (Below.heap_alloc W1.drew _ j hj)
  have hw3 := (hk rb hrb hne).trans h1
  have hv3 : v3.ownBlock ≠ some rb := by
    rcases hl with e | e
    · rw [e]; exact hne
    · rw [e]; simp; omega
  refine ⟨fun j => G j ∨ v3.ownBlock = some j, ⟨v3, ?_, hr.same (fun j hj => Below.heap_setCell w3 _ _ j (fun e => by have e' : j = rb := e; subst e'; exact hv3 hj)), .inl h3, fun j hj => .inr hj, ?_⟩, ?_, ?_⟩
  · have := hb_setCell_same (i := 0) hw3 v3
    simpa using this
  · rintro j (hj | hj)
    · have := h5 j hj; simp; omega
    · simp; exact (ownsRow_lt hr hj).1
  · rintro j (hj | hj)
    · exact .inl hj
    · rcases hl with e | e
      · exact .inl (h4 j (by rw [← e]; exact hj))
      · rw [e] at hj; simp at hj; exact .inr (by omega)
  · refine Fr.setCell ?_ _ _ (fun _ => h3)
    exact ⟨hg.os, hg.tape, hg.output, by omega, fun k hk2 hn => hk k hk2 (fun e => hn (h4 k e))⟩
set_option maxRecDepth 100000 in
theorem RFAdd_any (h : RFAt w rb L G) (hL : L.length ≤ 100000) (x : HB) : Calls Try.prog 11 #[.pointer (some ⟨rb, 0, none⟩), .agg (encH x)] w fun e w' =>
    e = .returned (.int .u64 (L.length : Int)) ∧ ∃ G', RFAt w' rb (L ++ [x]) G' ∧ Turns w w' G G' := by
  have H := Lib.hid h; clear h
  go_enter Try.func11, Try.ntmps11
  go_upto_region 1 with fail
  refine wp_name fun W1 HW1 => ?_
  have hb0 : Below w.heap.size w W1 := by rw [HW1.out]; exact (Below.refl _ _).alloc (Nat.le_refl _) _
  have hrx : rowAt W1 ⟨w.heap.size, 0, none⟩ 32 = some (encH x) := by rw [HW1.out]; exact rowAt_whole (hb_new w _) (size_encH _).symm
  have hs1 : W1.heap.size = w.heap.size + 1 := by rw [HW1.out]; simp
  clear HW1
  obtain ⟨v, h1, h2, h3, h4, h5⟩ := H.out.below hb0
  obtain ⟨ad, cap, rfl⟩ := ownsRow_shape h2
  have hrb := hb_lt h1
  have c1 : W1.cell? ⟨rb, 0, none⟩ = some (.slice ad L.length cap) := cell_of h1
  have f1 : W1.frozen? ⟨rb, 0, none⟩ = false := frozen_of h1
  have hne : (Value.slice ad L.length cap).ownBlock ≠ some rb := own_ne h1 h2 (by decide)
  have HRR : Hid (HOwn (W1.drew.alloc (.cells (encH x) 30)) 0 (.slice ad L.length cap) L) := h2.same (fun j hj => Below.heap_alloc W1.drew _ j (h5 j (h4 j hj)))
  have HBB : Hid ((W1.drew.alloc (.cells (encH x) 30)).heap[w.heap.size + 1]? = some (.cells (encH x) 30 (0, 0))) := by
    unfold Hid
    have := hb_new W1.drew (.cells (encH x) 30)
    rwa [show W1.drew.heap.size = w.heap.size + 1 from hs1] at this
  have HF3 : Hid (∀ w3, (W1.drew.alloc (.cells (encH x) 30)).grownBy w3 (Value.slice ad L.length cap).ownBlock → w3.heap[rb]? = some (.cells #[.slice ad L.length cap] 28 (0, 0))) := by
    intro w3 hg
    exact (hg.block rb (by simp; omega) (fun e => hne e.symm)).trans ((Below.heap_alloc W1.drew _ rb hrb).trans h1)
  have HCL : Hid (∀ v3 w3, HOwn w3 0 v3 (L ++ [x]) → ((W1.alloc (.cells (encH x) 30)).drew).grownBy w3 (Value.slice ad L.length cap).ownBlock → (v3.ownBlock = (Value.slice ad L.length cap).ownBlock ∨ v3.ownBlock = some ((W1.alloc (.cells (encH x) 30)).drew).heap.size) →
      ∃ G', RFAt (w3.setCell ⟨rb, 0, none⟩ v3) rb (L ++ [x]) G' ∧ Turns W1 (w3.setCell ⟨rb, 0, none⟩ v3) G G') := fun v3 w3 hr hg hl => rf_close h1 h2 h3 h4 h5 hr hg hl
  have HB0 := Lib.hid hb0; clear hb0
  clear h1 h2 h3 h4 h5 hne
  have c1a : (W1.alloc (.cells (encH x) 30)).cell? ⟨rb, 0, none⟩ = some (.slice ad L.length cap) := (cell_block (a := ⟨rb, 0, none⟩) (Below.heap_alloc W1 _ rb hrb)).trans c1
  go_cut [12] (fun v' wx => wx.cell? ⟨rb, 0, none⟩ = some v' ∧ (∃ ad cap, v' = .slice ad (L.length + 1) cap) ∧ ∃ G', RFAt wx rb (L ++ [x]) G' ∧ Turns W1 wx G G')
  case first =>
    go_region_law (refine step_append_H rfl _ _ rfl (L := L) rfl HRR.out (w.heap.size + 1) rfl x HBB.out (by omega) (Nat.zero_le _) ?_; intro v' w3 hr3 hg3 hl3; have f3 : w3.frozen? ⟨rb, 0, none⟩ = false := frozen_of (HF3.out w3 hg3); have c3 : w3.cell? ⟨rb, 0, none⟩ = some (.slice ad L.length cap) := cell_of (HF3.out w3 hg3); have h9 := Lib.hid (hb_setCell_same (i := 0) (HF3.out w3 hg3) v'); obtain ⟨ad3, cap3, rfl⟩ := ownsRow_shape hr3)
    all_goals (go_wp2_with fail; go_meet; have e0 : (L ++ [x]).length = L.length + 1 := (by simp); rw [e0] at hr3 hl3 h9; exact ⟨(cell_of h9.out).trans (by simp), ⟨_, _, rfl⟩, HCL.out _ _ hr3 hg3 hl3⟩)
  case rest =>
    obtain ⟨hc, ⟨ad2, cap2, rfl⟩, hG⟩ := hcut
    have HG := Lib.hid hG; clear hG
    have hwl : IntKind.u64.wrap (L.length : Int) = (L.length : Int) := by simp only [IntKind.wrap_u64]; omega
    clear c1a
    go_wp2_with fail
    go_ret
    obtain ⟨G', g1, g2, g3⟩ := HG.out
    exact ⟨by simp, G', g1, fun j hj => (g2 j hj).imp id (fun h => by omega), (Fr.of_below HB0.out).trans g3 (fun _ h => h) (fun _ _ h => h)⟩
theorem RFLeaf_any (h : RFAt w rb L G) (hL : L.length ≤ 1000000) (i : Nat) (hi : i < 18446744073709551616) :
    Calls Try.prog 16 #[.pointer (some ⟨rb, 0, none⟩), .int .u64 (i : Int)] w fun e w' => e = .returned (.tuple #[.agg (encH (leafOf L i)), .int .i64 (leafE L i : Int)]) ∧ Below w.heap.size w w' := by
  have hw : IntKind.u64.wrap (L.length : Int) = (L.length : Int) := by simp only [IntKind.wrap_u64]; omega
  by_cases hlt : i < L.length
  · have hlt' : ¬ (L.length : Int) ≤ (i : Int) := by omega
    obtain ⟨x, hx⟩ : ∃ x, L[i]? = some x := ⟨L[i], List.getElem?_eq_getElem hlt⟩
    obtain ⟨g, o, cap, c, hrow⟩ := h.leaf hx
    have hgl := rowAt_lt hrow
    obtain ⟨_, _, _, hrb, _⟩ := h.slice
    have HX := Lib.hid hx; clear hx
    have H := Lib.hid h; clear h
    go_enter Try.func16, Try.ntmps16
    go_wp2_with fail
    refine bodyPost_ret (results_cell_tmp aggH rfl _ _ rfl (rowAt_putRow_new _ _ _ _ _ _ rfl (size_encH _) (by simp [size_encH]))) rfl ⟨?_, ?_⟩
    · obtain ⟨e1, e2⟩ := leaf_in HX.out; rw [e1, e2]; simp
    · exact below_putRow ((Below.refl _ _).alloc (Nat.le_refl _) _) (Nat.le_refl _) _
  · have hlt' : (L.length : Int) ≤ (i : Int) := by omega
    obtain ⟨ad, cap, c, hrb, _⟩ := h.slice
    have H := Lib.hid h; clear h
    go_enter Try.func16, Try.ntmps16
    go_wp2_with fail
    refine bodyPost_ret (results_cell_tmp aggH rfl _ _ rfl (rowAt_putRow_new _ _ _ _ _ _ rfl (size_encH _) (by simp [size_encH]))) rfl ⟨?_, ?_⟩
    · obtain ⟨e1, e2⟩ := leaf_out hlt; rw [e1, e2]; simp
    · exact below_putRow ((Below.refl _ _).alloc (Nat.le_refl _) _) (Nat.le_refl _) _
set_option maxRecDepth 100000 in
theorem RFCut_any (h : RFAt w rb L G) (hL : L.length ≤ 1000000) (n : Nat) (hn : n < 18446744073709551616) : Calls Try.prog 19 #[.pointer (some ⟨rb, 0, none⟩), .int .u64 (n : Int)] w fun e w' =>
    e = .returned (.int .i64 (fcutE L n : Int)) ∧ ∃ G', RFAt w' rb (fcutL L n) G' ∧ Turns w w' G G' := by
  have hw : IntKind.u64.wrap (L.length : Int) = (L.length : Int) := by simp only [IntKind.wrap_u64]; omega
  by_cases hlt : L.length < n
  · have hlt' : (L.length : Int) < (n : Int) := by omega
    have E1 := Lib.hid (show fcutE L n = 30 by unfold fcutE; rw [if_pos hlt])
    have E2 := Lib.hid (show fcutL L n = L by unfold fcutL; rw [if_pos hlt])
    obtain ⟨ad, cap, c, hrb, _⟩ := h.slice
    have H := Lib.hid h; clear h
    go_enter Try.func19, Try.ntmps19
    go_wp2_with fail
    go_ret
    refine ⟨by rw [E1.out]; rfl, G, ?_, fun j h => .inl h, Fr.refl _ _⟩
    rw [E2.out]; exact H.out
  · have hlt' : ¬ (L.length : Int) < (n : Int) := by omega
    have E1 := Lib.hid (show fcutE L n = 0 by unfold fcutE; rw [if_neg hlt])
    have E2 := Lib.hid (show fcutL L n = L.take n by unfold fcutL; rw [if_neg hlt])
    obtain ⟨v, h1, h2, h3, h4, h5⟩ := h
    obtain ⟨ad, cap, rfl⟩ := ownsRow_shape h2
    have c : w.cell? ⟨rb, 0, none⟩ = some (.slice ad L.length cap) := cell_of h1
    have hrb := hb_lt h1
    have hcap := HOwn.cap h2
    have hnc : (n : Int) ≤ (cap : Int) := by omega
    have hb0 : Below w.heap.size w (w.alloc (Obj.cells #[] 30)) := (Below.refl _ w).alloc (Nat.le_refl _) _
    have hlen : (L.take n).length = n := by rw [List.length_take]; omega
    have hrow0 : HashRow (w.alloc (Obj.cells #[] 30)) (.slice ad n cap) (L.take n) := (h2.head n (by omega)).row.below hb0
    have HO : Hid (HOwn (w.alloc (Obj.cells #[] 30)) w.heap.size (.slice (some ⟨w.heap.size, 0, none⟩) ([] : List HB).length 0) []) :=
      ⟨rfl, .inr ⟨w.heap.size, 0, #[], rfl, Nat.le_refl _, hb_new w _, Nat.le_refl _, Nat.zero_le _, rfl, rfl⟩⟩
    have H1 := Lib.hid h1; clear h1
    have H3 := Lib.hid h3; clear h3
    have H5 := Lib.hid h5; clear h5
    clear h2 h4
    have HRB : Hid (∀ w3, (w.alloc (Obj.cells #[] 30)).grownBy w3 (some w.heap.size) → w3.heap[rb]? = some (.cells #[.slice ad L.length cap] 28 (0, 0))) := fun w3 hg =>
      (hg.block rb (by simp; omega) (by simp; omega)).trans ((Below.heap_alloc w _ rb hrb).trans H1.out)
    go_enter Try.func19, Try.ntmps19
    go_wp2_with (at_builtin; refine wpList_append_hashes _ rfl _ _ rfl w.heap.size ⟨w.heap.size, 0, none⟩ 0 [] (L.take n) rfl HO.out _ rfl hrow0 (by simp; omega) (by simp) ?_; intro ad2 cap2 w3 ho3 hg3 hd3; simp only [List.nil_append] at ho3; simp only [List.nil_append]; have f3 : w3.frozen? ⟨rb, 0, none⟩ = false := frozen_of (HRB.out w3 hg3); have c3 : w3.cell? ⟨rb, 0, none⟩ = some (.slice ad L.length cap) := cell_of (HRB.out w3 hg3))
    go_ret
    rw [hlen] at ho3
    have hw3 := HRB.out w3 hg3
    have hb3 : Below w.heap.size w w3 := hb0.grown hg3 (by simp) (fun k e => by cases e; exact Nat.le_refl _)
    have hne : ∀ j, (Value.slice (some ad2) n cap2).ownBlock = some j → w.heap.size ≤ j := fun j hj => (ownsRow_lt ho3 hj).2
    refine ⟨by rw [E1.out]; rfl, fun j => G j ∨ (Value.slice (some ad2) n cap2).ownBlock = some j, ?_, ?_, ?_⟩
    · rw [E2.out]
      refine ⟨_, ?_, ?_, .inl H3.out, fun j hj => .inr hj, ?_⟩
      · have := hb_setCell_same (i := 0) hw3 (.slice (some ad2) n cap2)
        simpa using this
      · exact HOwn.same (ownsRow_base ho3 (Nat.zero_le _)) (fun j hj => Below.heap_setCell w3 _ _ j (fun e => by have e' : j = rb := e; have := hne j hj; omega))
      · rintro j (hj | hj)
        · have := H5.out j hj; have := hb3.size; simp; omega
        · simp; exact (ownsRow_lt ho3 hj).1
    · rintro j (hj | hj)
      · exact .inl hj
      · exact .inr (hne j hj)
    · exact (Fr.of_below hb3).setCell _ _ (fun _ => H3.out)
end
end Go.Proofs.Ytoigddekipjkcaa
