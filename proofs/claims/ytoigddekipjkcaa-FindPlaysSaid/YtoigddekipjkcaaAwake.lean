/- massiflaw5.awake; comparing hashes. -/
import Derived.Stop.BytesEq
import Derived.Test.YtoigddekipjkcaaNew
namespace Go.Proofs.Ytoigddekipjkcaa
set_option linter.all false
open Go Go.RowKit Go.Proofs Go.Maps

theorem encH_cell (a : HB) : encH a = (a.1.map Extern.Stop.cell).toArray := rfl
set_option maxRecDepth 100000 in
@[go_sem] theorem equalIn_H (a b : HB) (w : World) : (Op.equalIn 10000 30 (.agg (encH a)) (.agg (encH b))).run Try.prog w = .ok (decide (a = b)) w := by
  rw [encH_cell, encH_cell, run_equalIn_bytes (P := Try.prog) w 9998 30 5 32 Try.underlying30 Try.underlying5 Try.sizeOf5 a.1 b.1 a.2 b.2]
  congr 1
  rw [Bool.eq_iff_iff]
  simp [Subtype.ext_iff]
def h1 (b : UInt8) : HB := ⟨b :: List.replicate 31 0, by simp⟩
@[go_sem ↓] theorem build_H7 (a : Act) (d : Option Tmp) (ty : TypeId) (pos : String) (after : Array Edge) (g : Option (Nat × Bool)) (w : World) :
    (execOp a.eval { dst := d, op := .build 30 #[(0, .const (.int .u8 7))], type := ty, pos := pos, after := after, guard := g }).run Try.prog w = .ok (.value (.agg (encH (h1 7)))) w := by
  have h : (Instr.build 30 #[(0, .int .u8 7)]).run Try.prog w = .ok (.agg (encH (h1 7))) w := by kernel_rfl
  have hx : ∀ v, a.eval (.const v) = v := fun _ => rfl
  simp [execOp, h, hx]
@[go_sem ↓] theorem build_H8 (a : Act) (d : Option Tmp) (ty : TypeId) (pos : String) (after : Array Edge) (g : Option (Nat × Bool)) (w : World) :
    (execOp a.eval { dst := d, op := .build 30 #[(0, .const (.int .u8 8))], type := ty, pos := pos, after := after, guard := g }).run Try.prog w = .ok (.value (.agg (encH (h1 8)))) w := by
  have h : (Instr.build 30 #[(0, .int .u8 8)]).run Try.prog w = .ok (.agg (encH (h1 8))) w := by kernel_rfl
  have hx : ∀ v, a.eval (.const v) = v := fun _ => rfl
  simp [execOp, h, hx]
theorem Fr.toBelow {S : Nat → Prop} {a b : World} {B : Nat} (h : Fr S a b) (hS : ∀ j, S j → B ≤ j) (hB : B ≤ a.heap.size) : Below B a b :=
  ⟨h.os, h.tape, h.output, h.size, fun k hk => h.block k (by omega) (fun hs => by have := hS k hs; omega)⟩
set_option maxRecDepth 100000 in
theorem awake_any (w : World) : Calls Try.prog 31 #[] w fun e w' => e = .returned (.bool true) ∧ Below w.heap.size w w' := by
  go_enter Try.func31, Try.ntmps31
  go_wp2_with fail
  refine (New_good 1 w (by omega)).mono ?_
  rintro e w1 ⟨sb, F, rfl, hS, hF, hb⟩
  have HS := Lib.hid hS; clear hS
  have HF := Lib.hid hF; clear hF
  go_wp2_with fail
  refine (Push_any HS.out (h1 7) (by simp)).mono ?_
  rintro e w2 ⟨rfl, F2, hS2, hT2⟩
  have HF2 : Hid (∀ j, F2 j → w.heap.size ≤ j) := fun j hj => (hT2.1 j hj).elim (HF.out j) (fun h => Nat.le_trans hb.size h)
  have hb2 : Below w.heap.size w w2 := hb.trans (hT2.2.toBelow HF.out hb.size)
  have HS2 := Lib.hid hS2; clear hS2 hT2
  go_wp2_with fail
  refine (Push_any HS2.out (h1 8) (by simp)).mono ?_
  rintro e w3 ⟨rfl, F3, hS3, hT3⟩
  have HF3 : Hid (∀ j, F3 j → w.heap.size ≤ j) := fun j hj => (hT3.1 j hj).elim (HF2.out j) (fun h => Nat.le_trans hb2.size h)
  have hb3 : Below w.heap.size w w3 := hb2.trans (hT3.2.toBelow HF2.out hb2.size)
  have HS3 := Lib.hid hS3; clear hS3 hT3
  go_wp2_with fail
  refine (Drop_any HS3.out 0 (by omega) (by simp)).mono ?_
  rintro e w4 ⟨rfl, hS4, hT4⟩
  have hb4 : Below w.heap.size w w4 := hb3.trans (hT4.toBelow HF3.out hb3.size)
  have e4 : dropL ([] ++ [(some (h1 7), 0)] ++ [(some (h1 8), 0)]) 0 = [(none, 0), (some (h1 8), 0)] := rfl
  rw [e4] at hS4
  have HS4 := Lib.hid hS4; clear hS4 hT4 e4
  have ed : dropE ([] ++ [(some (h1 7), 0)] ++ [(some (h1 8), 0)]) 0 = 0 := rfl
  rw [ed]; clear ed
  go_wp2_with fail
  refine (Get_any HS4.out 1 (by omega)).mono ?_
  rintro e w5 ⟨rfl, hb5⟩
  have e5 : hashL [(none, 0), (some (h1 8), 0)] 1 = h1 8 := rfl
  have e6 : errL [(none, 0), (some (h1 8), 0)] 1 = 0 := rfl
  rw [e5, e6]; clear e5 e6
  have hb5' : Below w.heap.size w w5 := hb4.trans (hb5.mono hb4.size)
  have HS5 := Lib.hid (HS4.out.below hb5)
  go_wp2_with fail
  refine calls_name fun W6 HW6 => ?_
  have hb6 : Below w.heap.size w W6 := by rw [HW6.out]; exact below_putRow (hb5'.alloc hb5'.size _) hb5'.size _
  have hbx : Hid (W6.heap[w5.heap.size]? = some (.cells (encH (h1 8)) 30 (0, 0))) := by
    have h1' := hb_eq HW6.out (hb_putRow_same (off := 0) (hb_new w5 (.cells (encH zH) 30)) (encH (h1 8)).toList)
    have e : splice (encH zH) 0 (encH (h1 8)).toList = encH (h1 8) := by
      apply Array.ext'
      have z : (encH zH).size = 32 := size_encH _
      have z2 : (encH (h1 8)).size = 32 := size_encH _
      simp [splice, z2, ← z]
    rw [e] at h1'; exact h1'
  have HS6 := Lib.hid (HS5.out.below (show Below w5.heap.size w5 W6 by rw [HW6.out]; exact below_putRow ((Below.refl _ w5).alloc (Nat.le_refl _) _) (Nat.le_refl _) _))
  refine (Get_any HS6.out 0 (by omega)).mono ?_
  rintro e w7 ⟨rfl, hb7⟩
  have e5 : hashL [(none, 0), (some (h1 8), 0)] 0 = zH := rfl
  have e6 : errL [(none, 0), (some (h1 8), 0)] 0 = 50 := rfl
  rw [e5, e6]; clear e5 e6
  have hb7' : Below w.heap.size w w7 := hb6.trans (hb7.mono hb6.size)
  have HS7 := Lib.hid (HS6.out.below hb7)
  have hlx : w5.heap.size < w7.heap.size := Nat.lt_of_lt_of_le (hb_lt hbx.out) hb7.size
  have hnx : w5.heap.size ≠ w7.heap.size := by omega
  have hrx : rowAt w7 ⟨w5.heap.size, 0, none⟩ 32 = some (encH (h1 8)) := rowAt_whole ((hb7.block _ (hb_lt hbx.out)).trans hbx.out) (size_encH _).symm
  have hgt : Try.prog.eqGuardType Try.prog.depth 30 = false := by kernel_rfl
  go_wp2_with fail
  refine calls_name fun W8 HW8 => ?_
  have hb8 : Below w.heap.size w W8 := by rw [HW8.out]; exact below_putRow (hb7'.alloc hb7'.size _) hb7'.size _
  have HS8 := Lib.hid (HS7.out.below (show Below w7.heap.size w7 W8 by rw [HW8.out]; exact below_putRow ((Below.refl _ w7).alloc (Nat.le_refl _) _) (Nat.le_refl _) _))
  refine (Len_any HS8.out).mono ?_
  rintro e w9 ⟨rfl, rfl⟩
  go_wp2_with fail
  refine (Alive_any HS8.out).mono ?_
  rintro e w9 ⟨rfl, rfl⟩
  have ea : cntL [(none, 0), (some (h1 8), 0)] = 1 := rfl
  rw [ea]
  go_wp2_with fail
  go_ret
  exact ⟨rfl, hb8⟩
end Go.Proofs.Ytoigddekipjkcaa
