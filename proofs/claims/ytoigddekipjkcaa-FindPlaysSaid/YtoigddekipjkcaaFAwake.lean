/- massiflaw22.awake. -/
import Derived.Test.YtoigddekipjkcaaFindW
import Derived.Test.YtoigddekipjkcaaCalm
namespace Go.Proofs.Ytoigddekipjkcaa
set_option linter.all false
open Go Go.RowKit Go.Proofs Go.Maps
open Go.ChangeMaps (setBlock)
@[go_sem ↓] theorem build_H1 (a : Act) (d : Option Tmp) (ty : TypeId) (pos : String) (after : Array Edge) (g : Option (Nat × Bool)) (w : World) :
    (execOp a.eval { dst := d, op := .build 30 #[(0, .const (.int .u8 1))], type := ty, pos := pos, after := after, guard := g }).run Try.prog w = .ok (.value (.agg (encH (h1 1)))) w := by
  have h : (Instr.build 30 #[(0, .int .u8 1)]).run Try.prog w = .ok (.agg (encH (h1 1))) w := by kernel_rfl
  have hx : ∀ v, a.eval (.const v) = v := fun _ => rfl
  simp [execOp, h, hx]
@[go_sem ↓] theorem build_H2 (a : Act) (d : Option Tmp) (ty : TypeId) (pos : String) (after : Array Edge) (g : Option (Nat × Bool)) (w : World) :
    (execOp a.eval { dst := d, op := .build 30 #[(0, .const (.int .u8 2))], type := ty, pos := pos, after := after, guard := g }).run Try.prog w = .ok (.value (.agg (encH (h1 2)))) w := by
  have h : (Instr.build 30 #[(0, .int .u8 2)]).run Try.prog w = .ok (.agg (encH (h1 2))) w := by kernel_rfl
  have hx : ∀ v, a.eval (.const v) = v := fun _ => rfl
  simp [execOp, h, hx]
@[go_sem ↓] theorem build_H201 (a : Act) (d : Option Tmp) (ty : TypeId) (pos : String) (after : Array Edge) (g : Option (Nat × Bool)) (w : World) :
    (execOp a.eval { dst := d, op := .build 30 #[(0, .const (.int .u8 201))], type := ty, pos := pos, after := after, guard := g }).run Try.prog w = .ok (.value (.agg (encH (h1 201)))) w := by
  have h : (Instr.build 30 #[(0, .int .u8 201)]).run Try.prog w = .ok (.agg (encH (h1 201))) w := by kernel_rfl
  have hx : ∀ v, a.eval (.const v) = v := fun _ => rfl
  simp [execOp, h, hx]
@[go_sem ↓] theorem build_H202 (a : Act) (d : Option Tmp) (ty : TypeId) (pos : String) (after : Array Edge) (g : Option (Nat × Bool)) (w : World) :
    (execOp a.eval { dst := d, op := .build 30 #[(0, .const (.int .u8 202))], type := ty, pos := pos, after := after, guard := g }).run Try.prog w = .ok (.value (.agg (encH (h1 202)))) w := by
  have h : (Instr.build 30 #[(0, .int .u8 202)]).run Try.prog w = .ok (.agg (encH (h1 202))) w := by kernel_rfl
  have hx : ∀ v, a.eval (.const v) = v := fun _ => rfl
  simp [execOp, h, hx]
theorem h12 : h1 1 ≠ h1 2 := by decide
theorem row_keep {w w' : World} {S : Nat → Prop} {b n : Nat} {c : Array Value} (h : rowAt w ⟨b, 0, none⟩ n = some c) (hf : Fr S w w') (hs : ¬ S b) : rowAt w' ⟨b, 0, none⟩ n = some c :=
  (rowAt_block (a := ⟨b, 0, none⟩) (hf.block b (rowAt_lt h) hs) n).trans h
set_option maxRecDepth 100000 in
set_option maxHeartbeats 1000000 in
theorem fawake_any (w : World) : Calls Try.prog 20 #[] w fun e w' => e = .returned (.bool true) ∧ Below w.heap.size w w' := by
  go_enter Try.func20, Try.ntmps20
  go_wp2_with fail
  refine (FNew_any w).mono ?_
  rintro e w1 ⟨fb, F1, rfl, hS, hF, hb1⟩
  have HS1 := Lib.hid hS; clear hS
  have HF1 := Lib.hid hF; clear hF
  go_upto_region 5 with fail
  refine wp_name fun W2 HW2 => ?_
  have hs2 : W2.heap.size = w1.heap.size + 2 := by rw [HW2.out]; simp [size_putRow]
  have hb2 : Below w1.heap.size w1 W2 := by rw [HW2.out]; exact below_putRow (below_putRow (((Below.refl _ _).alloc (Nat.le_refl _) _).alloc (by simp) _) (Nat.le_refl _) _) (Nat.le_succ _) _
  have r2 : rowAt W2 ⟨w1.heap.size, 0, none⟩ 32 = some (encH (h1 1)) := by
    rw [HW2.out]
    refine (rowAt_putRow_other _ _ _ _ _ _ (by show w1.heap.size ≠ w1.heap.size + 1; omega)).trans ?_
    exact rowAt_putRow_same ((hb_alloc (hb_new w1 _) _)) (size_encH _) (size_encH _)
  have r3 : rowAt W2 ⟨w1.heap.size + 1, 0, none⟩ 32 = some (encH (h1 2)) := by
    rw [HW2.out]
    have hn := hb_new (w1.alloc (.cells (encH zH) 30)) (.cells (encH zH) 30)
    simp only [World.size_alloc] at hn
    exact rowAt_putRow_same ((hb_putRow_other _ _ (by show w1.heap.size + 1 ≠ w1.heap.size; omega)).trans hn) (size_encH _) (size_encH _)
  clear HW2
  have HS2 := Lib.hid (HS1.out.below hb2)
  have HB2 : Hid (Below w.heap.size w W2) := hb1.trans (hb2.mono hb1.size)
  have HL1 : Hid (∀ j, F1 j → j < w1.heap.size) := HS1.out.lt
  go_wp2_with fail
  refine (FAdd_any HS2.out (by simp) (h1 1)).mono ?_
  rintro e w3 ⟨rfl, F3, hS3, hT3⟩
  have hf13 : ∀ j, F1 j → j < w1.heap.size := HL1.out
  have r2' := row_keep r2 hT3.2 (fun h => by have := hf13 _ h; omega)
  have r3' := row_keep r3 hT3.2 (fun h => by have := hf13 _ h; omega)
  have HF3 : Hid (∀ j, F3 j → (F1 j ∨ W2.heap.size ≤ j)) := hT3.1
  have HFw3 : Hid (∀ j, F3 j → w.heap.size ≤ j) := fun j hj => (hT3.1 j hj).elim (HF1.out j) (fun h => Nat.le_trans HB2.out.size h)
  have HB3 : Hid (Below w.heap.size w w3) := HB2.out.trans (hT3.2.toBelow HF1.out HB2.out.size)
  have hs3 := hT3.2.size
  have HS3 := Lib.hid hS3
  clear hS3 hT3 r2 r3 hf13
  go_wp2_with fail
  refine (FAdd_any HS3.out (by simp) (h1 2)).mono ?_
  rintro e w4 ⟨rfl, F4, hS4, hT4⟩
  have hn3 : ∀ j, w1.heap.size ≤ j → j < W2.heap.size → ¬ F3 j := fun j h1 h2 h => (HF3.out j h).elim (fun h => by have := HL1.out j h; omega) (fun h => by omega)
  have r2 := row_keep r2' hT4.2 (hn3 _ (by omega) (by omega))
  have r3 := row_keep r3' hT4.2 (hn3 _ (by omega) (by omega))
  have hn4 : Hid (∀ j, w1.heap.size ≤ j → j < W2.heap.size → ¬ F4 j) := fun j h1 h2 h => (hT4.1 j h).elim (hn3 j h1 h2) (fun h => by omega)
  have HFw4 : Hid (∀ j, F4 j → w.heap.size ≤ j) := fun j hj => (hT4.1 j hj).elim (HFw3.out j) (fun h => Nat.le_trans HB3.out.size h)
  have HB4 : Hid (Below w.heap.size w w4) := HB3.out.trans (hT4.2.toBelow HFw3.out HB3.out.size)
  have hs4 := hT4.2.size
  have HS4 := Lib.hid hS4
  clear hS4 hT4 r2' r3' hn3
  go_wp2_with fail
  refine (FAdd_any HS4.out (by simp) (h1 1)).mono ?_
  rintro e w5 ⟨rfl, F5, hS5, hT5⟩
  have r2' := row_keep r2 hT5.2 (hn4.out _ (by omega) (by omega))
  have HB5 : Hid (Below w.heap.size w w5) := HB4.out.trans (hT5.2.toBelow HFw4.out HB4.out.size)
  have hS5' : FindAt w5 fb [h1 1, h1 2, h1 1] F5 := hS5
  have HS5 := Lib.hid hS5'
  clear hS5 hS5' hT5 r2 r3
  go_wp2_with fail
  refine (FAt_any HS5.out (by simp) (h1 1)).mono ?_
  rintro e w6 ⟨v6, rfl, hu, hb6⟩
  have ei : idx [h1 1, h1 2, h1 1] (h1 1) = [mk64 0, mk64 2] := by decide
  rw [ei] at hu
  obtain ⟨ad6, cap6, rfl, hu6⟩ := NumRow.of_own hu
  obtain ⟨b6, o6, rfl, c60⟩ := hu6 0 (mk64 0) rfl
  obtain ⟨b6', o6', e6, c61⟩ := hu6 1 (mk64 2) rfl
  obtain ⟨rfl, rfl⟩ : b6 = b6' ∧ o6 = o6' := by simp at e6; exact e6
  clear e6 hu6 hu ei
  have r2 : rowAt w6 ⟨w1.heap.size, 0, none⟩ 32 = some (encH (h1 1)) := (rowAt_block (a := ⟨w1.heap.size, 0, none⟩) (hb6.block _ (rowAt_lt r2')) 32).trans r2'
  have HB6 : Hid (Below w.heap.size w w6) := HB5.out.trans (hb6.mono HB5.out.size)
  have HS6 := Lib.hid (HS5.out.below hb6)
  clear r2' hb6
  go_wp2_with fail
  refine (FTwice_any HS6.out (by simp)).mono ?_
  rintro e w7 ⟨v7, rfl, ht, hb7⟩
  have et : twice [h1 1, h1 2, h1 1] = [h1 1] := by decide
  rw [et] at ht
  obtain ⟨ad7, cap7, rfl, hr7⟩ := ht.row
  obtain ⟨b7, o7, rfl, c7⟩ := hr7 0 (h1 1) rfl
  have r2' : rowAt w7 ⟨w1.heap.size, 0, none⟩ 32 = some (encH (h1 1)) := (rowAt_block (a := ⟨w1.heap.size, 0, none⟩) (hb7.block _ (rowAt_lt r2)) 32).trans r2
  have c60' : w7.cell? ⟨b6, o6 + 0, none⟩ = some (.int .u64 0) := (hb7.cell (p := ⟨b6, o6 + 0, none⟩) (cell_lt c60)).trans c60
  have c61' : w7.cell? ⟨b6, o6 + 1, none⟩ = some (.int .u64 2) := (hb7.cell (p := ⟨b6, o6 + 1, none⟩) (cell_lt c61)).trans c61
  have HB7 : Hid (Below w.heap.size w w7) := HB6.out.trans (hb7.mono HB6.out.size)
  have HS7 := Lib.hid (HS6.out.below hb7)
  clear ht hr7 hb7 c60 c61 r2 et
  have heq : ∀ W, (binOp .eql 30 (.agg (encH (h1 1))) (.agg (encH (h1 1)))).run Try.prog W = .ok (.bool true) W := fun W => by rw [eql_H]; simp
  have hgd := guard_H
  have c60 : w7.cell? ⟨b6, o6, none⟩ = some (.int .u64 0) := c60'
  have c7' : rowAt w7 ⟨b7, o7, none⟩ 32 = some (encH (h1 1)) := by simpa using c7
  clear c60' c7
  simp only [List.length_cons, List.length_nil, Nat.zero_add, Nat.reduceAdd]
  have HUQ : Hid (∀ q, Calls Try.prog 21 #[.pointer (some ⟨fb, 0, none⟩)] (w7.drewN q) fun e w' => e = .returned (.int .i64 2) ∧ ∃ k, w' = w7.drewN k) := fun q =>
    (FUnlike_any (HS7.out.kept (w' := w7.drewN q) (Nat.le_refl _) (fun _ _ => rfl))).mono fun e w' h => ⟨h.1, q, h.2.symm⟩
  have HSQ : Hid (∀ q, Calls Try.prog 22 #[.pointer (some ⟨fb, 0, none⟩)] (w7.drewN q) fun e w' => e = .returned (.int .u64 3) ∧ ∃ k, w' = w7.drewN k) := fun q =>
    (FSize_any (HS7.out.kept (w' := w7.drewN q) (Nat.le_refl _) (fun _ _ => rfl)) (by simp)).mono fun e w' h => ⟨h.1, q, h.2.symm⟩
  go_wp2_with fail
  refine wp_region_calm (C := fun w' => ∃ k, w' = w7.drewN k) (by kernel_rfl) (by kernel_rfl) ⟨1, rfl⟩ ?_
  repeat (go_big_quiet_step (first | exact HUQ.out _ | exact HSQ.out _))
  refine wpQuiet_nil ?_
  rintro w8 ⟨nq, rfl⟩
  go_wp2_with fail
  go_ret
  exact ⟨rfl, ⟨HB7.out.os, HB7.out.tape, HB7.out.output, HB7.out.size, HB7.out.block⟩⟩
end Go.Proofs.Ytoigddekipjkcaa
