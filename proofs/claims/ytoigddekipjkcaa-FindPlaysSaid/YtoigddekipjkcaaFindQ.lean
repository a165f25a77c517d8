/- find.Find: New, Size, Unlike, Leaf, At. -/
import Derived.Test.YtoigddekipjkcaaIdx
namespace Go.Proofs.Ytoigddekipjkcaa
set_option linter.all false
open Go Go.RowKit Go.Proofs Go.Maps
open Go.ChangeMaps (setBlock)

def leafOf (L : List HB) (i : Nat) : HB := (L[i]?).getD zH
def leafE (L : List HB) (i : Nat) : Nat := if i < L.length then 0 else 32
theorem leaf_in {L : List HB} {i : Nat} {x : HB} (h : L[i]? = some x) : leafOf L i = x ∧ leafE L i = 0 := by
  refine ⟨by unfold leafOf; rw [h]; rfl, ?_⟩
  unfold leafE; rw [if_pos (List.getElem?_eq_some_iff.1 h).1]
theorem leaf_out {L : List HB} {i : Nat} (h : ¬ i < L.length) : leafOf L i = zH ∧ leafE L i = 32 :=
  ⟨by unfold leafOf; rw [List.getElem?_eq_none (by omega)]; rfl, by unfold leafE; rw [if_neg h]⟩
theorem zeroNums (w : World) : (zeroValue 36).run Try.prog w = .ok nilV w := by kernel_rfl
theorem MapOf.look {w : World} {b : Nat} {M : List (HB × Value)} {L : List HB} {F : Nat → Prop} (h : MapOf w b M L F) {W : World} (hW : W.heap[b]? = w.heap[b]?) (x : HB) :
    (Instr.lookup 70 (.map (some b)) (.agg (encH x)) false).run Try.prog W = .ok (rowOf M x) W := by
  have := MapIs.lookup keyH Try.underlying70 zeroNums (h.map.same hW) x false
  rw [ekH] at this
  rw [this]
  simp only [Bool.false_eq_true, if_false, Option.map_id_fun, id_eq]
  rfl
theorem rowOf_shape {w : World} {b : Nat} {M : List (HB × Value)} {L : List HB} {F : Nat → Prop} (h : MapOf w b M L F) (x : HB) : (x ∉ L ∧ rowOf M x = .slice none 0 0) ∨
    (x ∈ L ∧ ∃ g cap, rowOf M x = .slice (some ⟨g, 0, none⟩) (idx L x).length cap) := by
  by_cases hx : x ∈ L
  · refine .inr ⟨hx, ?_⟩
    obtain ⟨_, ⟨_, e⟩ | ⟨g, cap, cur, e, _⟩⟩ := h.row x
    · exact absurd (idx_pos.2 hx) (by omega)
    · exact ⟨g, cap, e⟩
  · refine .inl ⟨hx, ?_⟩
    unfold rowOf; rw [(h.mem x).2 hx]; rfl
section
variable {w : World} {fb : Nat} {L : List HB} {F : Nat → Prop}
theorem FindAt.cells (h : FindAt w fb L F) : ∃ ad cap b, w.cell? ⟨fb, 0, none⟩ = some (.slice ad L.length cap) ∧ w.cell? ⟨fb, 1, none⟩ = some (.map (some b)) := by
  obtain ⟨v, b, M, R⟩ := h
  obtain ⟨ad, cap, rfl⟩ := ownsRow_shape R.leaves
  exact ⟨ad, cap, b, cell_of R.own, cell_of R.own⟩
theorem FSize_any (h : FindAt w fb L F) (hL : L.length ≤ 1000000) : Calls Try.prog 22 #[.pointer (some ⟨fb, 0, none⟩)] w fun e w' => e = .returned (.int .u64 (L.length : Int)) ∧ w = w' := by
  obtain ⟨ad, cap, b, c0, c1⟩ := h.cells
  have hw : IntKind.u64.wrap (L.length : Int) = (L.length : Int) := by simp only [IntKind.wrap_u64]; omega
  have H := Lib.hid h; clear h
  go_enter Try.func22, Try.ntmps22
  go_wp2
  go_ret
  exact ⟨rfl, rfl⟩
theorem FUnlike_any (h : FindAt w fb L F) : Calls Try.prog 21 #[.pointer (some ⟨fb, 0, none⟩)] w fun e w' => e = .returned (.int .i64 ((firsts L).length : Int)) ∧ w = w' := by
  obtain ⟨v, b, M, R⟩ := h
  have c1 : w.cell? ⟨fb, 1, none⟩ = some (.map (some b)) := cell_of R.own
  have hlen := fun ty => MapIs.len (P := Try.prog) Try.underlying70 R.m.map ty
  rw [R.m.length] at hlen
  have H := Lib.hid R; clear R
  go_enter Try.func21, Try.ntmps21
  go_wp2
  go_ret
  exact ⟨rfl, rfl⟩
theorem FNew_any (w : World) : Calls Try.prog 9 #[] w fun e w' => ∃ fb F, e = .returned (.pointer (some ⟨fb, 0, none⟩)) ∧ FindAt w' fb [] F ∧ (∀ j, F j → w.heap.size ≤ j) ∧ Below w.heap.size w w' := by
  have hmm := @run_makeMap Try.prog
  go_enter Try.func9, Try.ntmps9
  go_wp2
  go_ret
  have hM : MapIs ekH (id : Value → Value) (w.alloc (Obj.map #[] 0)) w.heap.size ([] : List (HB × Value)) := MapIs.made (hb_new w _)
  refine ⟨w.heap.size + 1, fun j => j = w.heap.size ∨ j = w.heap.size + 1, rfl, ⟨nilV, w.heap.size, [], ?_, ?_, ?_, ⟨hM.alloc _, ?_, ?_, ?_, ?_, .inl rfl⟩, .inr rfl, ?_⟩, ?_, ?_⟩
  · have := hb_new (w.alloc (Obj.map #[] 0)) (.cells #[.slice none 0 0, .map (some w.heap.size)] 72); simpa [nilV] using this
  · exact World.ownsRow_nil _ _ _ _
  · intro j hj; cases hj
  · intro x; exact World.ownsRow_nil _ _ _ _
  · intro x; simp [alGet]
  · intro x j hj; cases hj
  · intro x y j hj; cases hj
  · rintro j (rfl | rfl) <;> simp <;> omega
  · rintro j (rfl | rfl) <;> omega
  · exact ((Below.refl _ w).alloc (Nat.le_refl _) _).alloc (by simp) _
theorem FLeaf_any (h : FindAt w fb L F) (hL : L.length ≤ 1000000) (i : Nat) (hi : i < 18446744073709551616) :
    Calls Try.prog 15 #[.pointer (some ⟨fb, 0, none⟩), .int .u64 (i : Int)] w fun e w' => e = .returned (.tuple #[.agg (encH (leafOf L i)), .int .i64 (leafE L i : Int)]) ∧ Below w.heap.size w w' := by
  have h' := h
  obtain ⟨v, b, M, R⟩ := h'
  have hfb : fb < w.heap.size := hb_lt R.own
  obtain ⟨ad, cap, hv, hrow⟩ := R.leaves.row
  subst hv
  have c0 : w.cell? ⟨fb, 0, none⟩ = some (.slice ad L.length cap) := cell_of R.own
  have hbw : Below w.heap.size w (w.alloc (Obj.cells (encH zH) 30)) := (Below.refl _ w).alloc (Nat.le_refl _) _
  have HS := Lib.hid ((FSize_any (h.below hbw) hL))
  clear R
  have H := Lib.hid h; clear h
  by_cases hlt : i < L.length
  · have hlt' : ¬ (L.length : Int) ≤ (i : Int) := by omega
    obtain ⟨x, hx⟩ : ∃ x, L[i]? = some x := ⟨L[i], List.getElem?_eq_getElem hlt⟩
    obtain ⟨g, o, rfl, hr⟩ := hrow i x hx
    have hgl := rowAt_lt hr
    have HX := Lib.hid hx; clear hx hrow
    go_enter Try.func15, Try.ntmps15
    go_wp2_with fail
    refine HS.out.mono ?_
    rintro e w1 ⟨rfl, rfl⟩
    go_wp2_with fail
    refine bodyPost_ret (results_cell_tmp aggH rfl _ _ rfl (rowAt_putRow_new _ _ _ _ _ _ rfl (size_encH _) (by simp [size_encH]))) rfl ⟨?_, ?_⟩
    · obtain ⟨e1, e2⟩ := leaf_in HX.out; rw [e1, e2]; simp
    · exact below_putRow ((Below.refl _ _).alloc (Nat.le_refl _) _) (Nat.le_refl _) _
  · have hlt' : (L.length : Int) ≤ (i : Int) := by omega
    clear hrow
    go_enter Try.func15, Try.ntmps15
    go_wp2_with fail
    refine HS.out.mono ?_
    rintro e w1 ⟨rfl, rfl⟩
    go_wp2_with fail
    refine bodyPost_ret (results_cell_tmp aggH rfl _ _ rfl (rowAt_putRow_new _ _ _ _ _ _ rfl (size_encH _) (by simp [size_encH]))) rfl ⟨?_, ?_⟩
    · obtain ⟨e1, e2⟩ := leaf_out hlt; rw [e1, e2]; simp
    · exact below_putRow ((Below.refl _ _).alloc (Nat.le_refl _) _) (Nat.le_refl _) _
@[go_sem] theorem eql_nums_nil (w : World) : (binOp .eql 36 (.slice none 0 0) (.slice none 0 0)).run Try.prog w = .ok (.bool true) w := by kernel_rfl
@[go_sem] theorem eql_nums_some (a : Addr) (n c : Nat) (w : World) : (binOp .eql 36 (.slice (some a) n c) (.slice none 0 0)).run Try.prog w = .ok (.bool false) w := by kernel_rfl
/-- slices.Clone. -/
theorem URow.num {w : World} {base : Nat} {v : Value} {ks : List U64} (h : URow w base v ks) : NumRow w v ks := NumRow.of_own h
set_option maxRecDepth 100000 in
theorem Clone_any (w : World) (v : Value) (ks : List U64) (h : NumRow w v ks) (hs : v = .slice none 0 0 ∨ ∃ a n c, v = .slice (some a) n c) (hl : ks.length ≤ 1000000) :
    Calls Try.prog 40 #[v] w fun e w' => ∃ v', e = .returned v' ∧ URow w' w.heap.size v' ks ∧ Below w.heap.size w w' := by
  have h' := h
  obtain ⟨ad, cap, rfl, hr⟩ := h'
  rcases hs with e | ⟨a, n, c, e⟩
  · simp at e
    obtain ⟨rfl, e2, rfl⟩ := e
    obtain rfl : ks = [] := by simpa using e2
    clear h hr
    go_enter Try.func40, Try.ntmps40
    go_wp2
    go_ret
    exact ⟨_, rfl, World.ownsRow_nil _ _ _ _, Below.refl _ _⟩
  · simp at e
    obtain ⟨rfl, rfl, rfl⟩ := e
    have H := Lib.hid h; clear h hr
    have HB : Hid (Below w.heap.size w (w.alloc (.cells #[] 31))) := (Below.refl _ w).alloc (Nat.le_refl _) _
    have HO : Hid ((w.alloc (Obj.cells #[] 31)).ownsRow w.heap.size 31 1 (.slice (some ⟨w.heap.size, 0, none⟩) 0 0) 0 []) :=
      ⟨rfl, .inr ⟨w.heap.size, 0, #[], rfl, Nat.le_refl _, hb_new w _, Nat.le_refl _, Nat.zero_le _, rfl, rfl⟩⟩
    have hna := H.out.below HB.out
    go_enter Try.func40, Try.ntmps40
    go_wp2_with (at_builtin; refine wpList_append_nums _ rfl _ _ rfl w.heap.size ⟨w.heap.size, 0, none⟩ 0 [] ks rfl HO.out _ rfl hna (by simp; omega) (by simp) ?_; intro ad2 cap2 w3 ho3 hg3 hd3; simp only [List.nil_append] at ho3; simp only [List.nil_append])
    go_ret
    exact ⟨_, rfl, ho3, HB.out.grown hg3 (by simp) (fun k e => by cases e; exact Nat.le_refl _)⟩
set_option maxRecDepth 100000 in
theorem FAt_any (h : FindAt w fb L F) (hL : L.length ≤ 1000000) (x : HB) : Calls Try.prog 13 #[.pointer (some ⟨fb, 0, none⟩), .agg (encH x)] w fun e w' =>
    ∃ v', e = .returned v' ∧ URow w' w.heap.size v' (idx L x) ∧ Below w.heap.size w w' := by
  obtain ⟨v, b, M, R⟩ := h
  have hfb : fb < w.heap.size := hb_lt R.own
  have c1 : w.cell? ⟨fb, 1, none⟩ = some (.map (some b)) := cell_of R.own
  have HLK : Hid (∀ W, Below w.heap.size w W → (Instr.lookup 70 (.map (some b)) (.agg (encH x)) false).run Try.prog W = .ok (rowOf M x) W) := fun W hW => R.m.look (hW.block b R.m.map.lt) x
  have hsh := rowOf_shape R.m x
  have HN : Hid (NumRow w (rowOf M x) (idx L x)) := (R.m.row x).num
  have hil := idx_length L x
  obtain ⟨rv, hrv⟩ : ∃ rv, rowOf M x = rv := ⟨_, rfl⟩
  rw [hrv] at HLK HN hsh
  have HSH : Hid (rv = .slice none 0 0 ∨ ∃ a n c, rv = .slice (some a) n c) := by
    rcases hsh with ⟨_, e⟩ | ⟨_, g, c, e⟩
    · exact .inl e
    · exact .inr ⟨_, _, _, e⟩
  clear R hsh hrv
  go_enter Try.func13, Try.ntmps13
  go_upto_region 1 with fail
  refine wp_name fun W1 HW1 => ?_
  have hb0 : Below w.heap.size w W1 := by rw [HW1.out]; exact (Below.refl _ _).alloc (Nat.le_refl _) _
  have hrx : rowAt W1 ⟨w.heap.size, 0, none⟩ 32 = some (encH x) := by rw [HW1.out]; exact rowAt_whole (hb_new w _) (size_encH _).symm
  have hs1 : W1.heap.size = w.heap.size + 1 := by rw [HW1.out]; simp
  clear HW1
  have hc1 : W1.cell? ⟨fb, 1, none⟩ = some (.map (some b)) := (hb0.cell (p := ⟨fb, 1, none⟩) hfb).trans c1
  have hlk := HLK.out W1.drew hb0.drew
  have HC := Lib.hid (Clone_any W1.drew rv (idx L x) (HN.out.below hb0.drew) HSH.out (by omega))
  have HB0 := Lib.hid hb0; clear hb0
  clear HLK HN HSH
  go_still_tail 6, (by kernel_rfl)
  change wpList _ _ _ _ _ W1.drew
  go_wp2_with fail
  refine HC.out.mono ?_
  rintro e w2 ⟨v', rfl, h1, h2⟩
  have hb2 : Below w.heap.size w w2 := HB0.out.drew.trans (h2.mono (by show w.heap.size ≤ W1.heap.size; omega))
  have h1' : URow w2 w.heap.size v' (idx L x) := ownsRow_base h1 (by show w.heap.size ≤ W1.heap.size; omega)
  have H1 := Lib.hid h1'; clear h1 h1' h2
  go_wp2_with fail
  go_ret
  exact ⟨_, rfl, H1.out, hb2⟩
end
end Go.Proofs.Ytoigddekipjkcaa
