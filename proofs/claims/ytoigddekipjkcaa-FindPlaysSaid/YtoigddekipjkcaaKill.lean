/- The walk of store.kill. -/
import Derived.Test.YtoigddekipjkcaaLay
namespace Go.Proofs.Ytoigddekipjkcaa
set_option linter.all false
open Go Go.RowKit Go.Proofs Go.Maps
open Go.ChangeMaps (setBlock)

theorem look_none {w : World} {cm : Nat} {M : List (U64 × Nat)} {kU : U64} (h : MapIs ekK evP w cm M) (hk : alGet M kU = none) :
    (Instr.lookup 77 (.map (some cm)) (ekK kU) false).run Try.prog w = .ok (.pointer none) w := by
  have := MapIs.lookup keyE Try.underlying77 zeroPtr h kU false
  rw [hk] at this; exact this
theorem look_some {w : World} {cm cb : Nat} {M : List (U64 × Nat)} {kU : U64} (h : MapIs ekK evP w cm M) (hk : alGet M kU = some cb) :
    (Instr.lookup 77 (.map (some cm)) (ekK kU) false).run Try.prog w = .ok (.pointer (some ⟨cb, 0, none⟩)) w := by
  have := MapIs.lookup keyE Try.underlying77 zeroPtr h kU false
  rw [hk] at this; exact this
/-- What kill leaves where the node lived. -/
def KillPost (sb cm pm log at_ n al : Nat) (w : World) (kU : U64) (M : List (U64 × Nat)) (cb : Nat) (ns : List ND) (lv : Nat) (nb : Nat) (w' : World) : Prop :=
  StoreCells w' sb log n (al - 1) cm pm ∧ ChunkAt w' cb (ns.set at_ none) (lv - 1) (some nb) ∧
    MapIs ekK evP w' cm (if lv = 1 then alDel M kU else M) ∧ Fr (fun j => j = sb ∨ j = cm ∨ j = cb ∨ j = nb) w w'
set_option maxRecDepth 100000 in
theorem kill_live (sb cm pm log p k at_ n al : Nat) (w : World) (kU : U64) (M : List (U64 × Nat)) (cb : Nat) (ns : List ND) (lv : Nat) (nb : Nat)
    (hS : StoreCells w sb log n al cm pm) (hM : MapIs ekK evP w cm M) (hkM : alGet M kU = some cb) (hc : ChunkAt w cb ns lv (some nb)) (hx : ∃ h, ns[at_]? = some (some h))
    (hl : log ≤ 16) (hp : p < 18446744073709551616) (hlv : lv ≤ 1000000) (hlv1 : 1 ≤ lv) (hal : al ≤ 4611686018427387904) (hal1 : 1 ≤ al) (hns : ns.length ≤ 1048576)
    (hk : Hid (p / 2 ^ log = k)) (ha : Hid (p % 2 ^ log = at_)) (hkU : Hid (kU.1 = k)) :
    Calls Try.prog 46 #[.pointer (some ⟨sb, 0, none⟩), .int .u64 p] w fun e w' => e = .returned (.bool true) ∧ KillPost sb cm pm log at_ n al w kU M cb ns lv nb w' := by
  have hs : sb < w.heap.size := hb_lt hS
  have hcm := hM.lt
  have HS := Lib.hid hS; clear hS
  have HM := Lib.hid hM; clear hM
  have HkM := Lib.hid hkM; clear hkM
  obtain ⟨v, hv1, hv2, hv3⟩ := hc
  obtain ⟨ad, cap, rfl⟩ := ownsRow_shape hv2
  obtain ⟨hh, hx⟩ := hx
  have hat : at_ < ns.length := (List.getElem?_eq_some_iff.1 hx).1
  obtain ⟨g, rfl⟩ := ownsRow_pos hv2 (by omega)
  simp only [Value.ownBlock, Option.some.injEq] at hv3
  subst hv3
  obtain ⟨cur, r1, r2, r3, r4⟩ := ownsRow_block hv2
  have hcell : w.cell? ⟨g, at_ * 33 + 32, none⟩ = some (.bool true) := by
    rw [cell_of r1]
    have e1 : cur.toList[at_ * 33 + 32]? = (rowN ns)[at_ * 33 + 32]? := by
      rw [← r4, List.getElem?_take, if_pos (by omega)]
    rw [← Array.getElem?_toList, e1]
    exact rowN_live ns at_ hh hx
  have V1 := Lib.hid hv1; clear hv1
  have V2 := Lib.hid hv2; clear hv2
  have HX := Lib.hid hx; clear hx
  have R1 := Lib.hid r1; clear r1
  obtain ⟨N, hN⟩ : ∃ N, N = ns.length := ⟨_, rfl⟩
  rw [← hN] at hat hns r2 r4 V1 V2
  have HN := Lib.hid hN; clear hN
  have hgl : g < w.heap.size := hb_lt R1.out
  have hcl : cb < w.heap.size := hb_lt V1.out
  go_enter Try.func46, Try.ntmps46
  go_wp2_with fail
  refine (find_some sb cm log p k at_ cb g N cap true _ (cell_of HS.out) (cell_of HS.out) hl hp hs hcm hcl hgl hk ha hns (fun W hW => ?_) (cell_of V1.out) (fun _ => hcell)).mono ?_
  · have := look_some (HM.out.same hW) HkM.out
    rw [ekK, hkU.out] at this
    exact this
  rintro e w1 ⟨rfl, hb1⟩
  rw [show findRes at_ N g true = .pointer (some ⟨g, at_ * 33, none⟩) from by simp [findRes, hat]]
  have C1 := Lib.hid ((hb1.block cb hcl).trans V1.out)
  have C2 := Lib.hid ((hb1.block g hgl).trans R1.out)
  have C3 := Lib.hid ((hb1.block sb hs).trans HS.out)
  have CM := Lib.hid (HM.out.same (hb1.block cm hcm))
  have hfree : rowFree w1 ⟨g, at_ * 33, none⟩ 33 = true := rowFree_of C2.out (by omega)
  have hsz1 := hb1.size
  have ncg : cb ≠ g := ne_type C1.out C2.out (by decide)
  have nsg : sb ≠ g := ne_type C3.out C2.out (by decide)
  have nsc : sb ≠ cb := ne_type C3.out C1.out (by decide)
  obtain ⟨em, ckm, hcmb, _⟩ := CM.out
  have nmg : cm ≠ g := fun e => ne_map C2.out hcmb e.symm
  have nmc : cm ≠ cb := fun e => ne_map C1.out hcmb e.symm
  have nms : cm ≠ sb := fun e => ne_map C3.out hcmb e.symm
  clear hcmb
  go_wp2_with fail
  refine calls_name fun W2 HW2 => ?_
  have E2 : ∀ j, j ≠ g → W2.heap[j]? = w1.heap[j]? := fun j hj => by rw [HW2.out]; exact hb_putRow_other _ _ hj
  have D1 := Lib.hid ((E2 cb ncg).trans C1.out)
  have D2 := Lib.hid (hb_eq HW2.out (hb_putRow_same C2.out _))
  have D3 := Lib.hid ((E2 sb nsg).trans C3.out)
  have DM := Lib.hid (CM.out.same (E2 cm nmg))
  have F2 : Hid (Fr (fun j => j = g) w W2) := by
    unfold Hid; rw [HW2.out]
    exact Fr.putRow (Fr.of_below hb1) _ _ (fun _ => rfl)
  have hsz2 : W2.heap.size = w1.heap.size := by rw [HW2.out]; exact size_putRow _ _ _
  clear E2
  refine (spot_any _ _ _ k at_ _ (cell_of D3.out) hl hp (hb_lt D3.out) hk ha).mono ?_
  rintro e w3 ⟨rfl, hb3⟩
  have hsz3 := hb3.size
  have G1 := Lib.hid ((hb3.block cb (hb_lt D1.out)).trans D1.out)
  have G2 := Lib.hid ((hb3.block g (hb_lt D2.out)).trans D2.out)
  have G3 := Lib.hid ((hb3.block sb (hb_lt D3.out)).trans D3.out)
  have GM := Lib.hid (DM.out.same (hb3.block cm DM.out.lt))
  have F3 : Hid (Fr (fun j => j = g) w w3) := F2.out.trans (Fr.of_below (S := fun _ => False) hb3) (fun _ h => h) (fun _ _ h => h.elim)
  go_wp2_with fail
  refine wp_name fun W HW => ?_
  have hszW : W.heap.size = w3.heap.size + 1 := by rw [HW.out]; simp
  have X1 := Lib.hid (hb_eq HW.out (hb_alloc G1.out _))
  have X2 := Lib.hid (hb_eq HW.out (hb_alloc G2.out _))
  have X3 := Lib.hid (hb_eq HW.out (hb_alloc G3.out _))
  have XM := Lib.hid (MapIs.eq HW.out (GM.out.alloc _))
  have XK := Lib.hid (hb_eq HW.out (hb_new w3 _))
  have FW : Hid (Fr (fun j => j = g) w W) := by unfold Hid; rw [HW.out]; exact F3.out.alloc _
  have hbz : ∀ n, (Instr.lookup 77 (.map (some cm)) (.agg #[.int .u64 (k : Int)]) false).run Try.prog (W.drewN n) = .ok (.pointer (some ⟨cb, 0, none⟩)) _ := fun n => by
    have := look_some (XM.out.drewN n) HkM.out
    rw [ekK, hkU.out] at this
    exact this
  have g3 : W.cell? ⟨sb, 3, none⟩ = some (.map (some cm)) := cell_of X3.out
  have gk : W.cell? ⟨w3.heap.size, 0, none⟩ = some (.int .u64 k) := cell_of XK.out
  go_quiet (fail)
  clear hbz
  have c1 : W.cell? ⟨cb, 1, none⟩ = some (.int .i64 lv) := cell_of X1.out
  have cf1 : W.frozen? ⟨cb, 1, none⟩ = false := frozen_of X1.out
  have s2 : W.cell? ⟨sb, 2, none⟩ = some (.int .u64 al) := cell_of X3.out
  have sf2 : W.frozen? ⟨sb, 2, none⟩ = false := frozen_of X3.out
  have hrow := splice_row none (l := ns) r4 HN.out.symm hat r2
  rw [← nodeZ_none] at hrow
  have HR := Lib.hid hrow; clear hrow
  have hcap := Lib.hid (ownsRow_cap V2.out)
  have mk : ∀ W', W'.heap[g]? = some (.cells (splice cur (at_ * 33) nodeZ.toList) 87 (0, 0)) → W'.heap[cb]? = some (.cells #[.slice (some ⟨g, 0, none⟩) N cap, .int .i64 ((lv : Int) - 1)] 110 (0, 0)) →
      ChunkAt W' cb (ns.set at_ none) (lv - 1) (some g) := fun W' h1 h2 => by
    have e : (((lv - 1 : Nat) : Int)) = (lv : Int) - 1 := by omega
    refine ⟨_, by rw [e]; exact h2, ?_, rfl⟩
    rw [List.length_set, ← HN.out]
    exact ⟨by rw [length_rowN, List.length_set, ← HN.out], .inr ⟨g, cap, _, rfl, Nat.zero_le _, h1, hcap.out.1, hcap.out.2, HR.out.1.trans r3, HR.out.2⟩⟩
  have HMK := Lib.hid mk; clear mk
  have eal : (((al - 1 : Nat) : Int)) = (al : Int) - 1 := by omega
  have EAL := Lib.hid eal; clear eal
  by_cases h1 : lv = 1
  · go_wp2_with fail
    refine wp_name fun W5 HW5 => ?_
    subst h1
    have Y1 := Lib.hid (hb_eq HW5.out (hb_setCell (hb_setCell_same (hb_drewN X1.out nq) _) ⟨sb, 2, none⟩ _ nsc.symm))
    have Y2 := Lib.hid (hb_eq HW5.out (hb_setCell (hb_setCell (hb_drewN X2.out nq) ⟨cb, 1, none⟩ _ ncg.symm) ⟨sb, 2, none⟩ _ nsg.symm))
    have Y3 := Lib.hid (hb_eq HW5.out (hb_setCell_same (hb_setCell (hb_drewN X3.out nq) ⟨cb, 1, none⟩ _ nsc) _))
    have YK := Lib.hid (hb_eq HW5.out (hb_setCell (hb_setCell (hb_drewN XK.out nq) ⟨cb, 1, none⟩ _ (by have := hb_lt G1.out; simp; omega)) ⟨sb, 2, none⟩ _ (by have := hb_lt G3.out; simp; omega)))
    have YM : Hid (MapIs ekK evP W5 cm M) := by
      unfold Hid
      refine XM.out.same ?_
      rw [HW5.out, Below.heap_setCell _ _ _ cm nms, Below.heap_setCell _ _ _ cm nmc]
      rfl
    have FY : Hid (Fr (fun j => j = sb ∨ j = cm ∨ j = cb ∨ j = g) w W5) := by
      unfold Hid; rw [HW5.out]
      exact Fr.setCell (Fr.setCell ((FW.out.mono (fun _ _ h => .inr (.inr (.inr h)))).drewN _) _ _ (fun _ => .inr (.inr (.inl rfl)))) _ _ (fun _ => .inl rfl)
    have g3' : W5.cell? ⟨sb, 3, none⟩ = some (.map (some cm)) := cell_of Y3.out
    have gk' : W5.cell? ⟨w3.heap.size, 0, none⟩ = some (.int .u64 k) := cell_of YK.out
    go_still_tail 5, (by kernel_rfl)
    change wpList _ _ _ _ _ W5.drew
    refine wpList_del_is (T := 77) (b := cm) (l := M) (w := W5.drew) rfl _ _ rfl keyE Try.underlying77 YM.out kU rfl ?_ (fun ob hM' => ?_)
    · show Value.agg #[.int .u64 (k : Int)] = _
      rw [ekK, hkU.out]
    go_wp2_with fail
    go_ret
    refine ⟨rfl, ?_, HMK.out _ (hb_setBlock (hb_drew Y2.out) _ _ nmg.symm) ?_, by simpa using hM', ?_⟩
    · have := hb_setBlock (hb_drew Y3.out) cm ob nms.symm
      unfold StoreCells
      rw [EAL.out]
      simpa using this
    · have := hb_setBlock (hb_drew Y1.out) cm ob nmc.symm
      simpa using this
    · exact (FY.out.drew).setBlock _ _ (fun _ => .inr (.inl rfl))
  · go_wp2_with fail
    go_ret
    refine ⟨rfl, ?_, HMK.out _ (hb_setCell (hb_setCell (hb_drewN X2.out nq) ⟨cb, 1, none⟩ _ ncg.symm) ⟨sb, 2, none⟩ _ nsg.symm) ?_, ?_, ?_⟩
    · have := hb_setCell_same (i := 2) (hb_setCell (hb_drewN X3.out nq) ⟨cb, 1, none⟩ (.int .i64 ((lv : Int) - 1)) nsc) (.int .u64 ((al : Int) - 1))
      unfold StoreCells
      rw [EAL.out]
      simpa using this
    · have := hb_setCell (hb_setCell_same (i := 1) (hb_drewN X1.out nq) (.int .i64 ((lv : Int) - 1))) ⟨sb, 2, none⟩ (.int .u64 ((al : Int) - 1)) nsc.symm
      simpa using this
    · rw [if_neg h1]
      refine XM.out.same ?_
      rw [Below.heap_setCell _ _ _ cm nms, Below.heap_setCell _ _ _ cm nmc]
      rfl
    · exact Fr.setCell (Fr.setCell ((FW.out.mono (fun _ _ h => .inr (.inr (.inr h)))).drewN _) _ _ (fun _ => .inr (.inr (.inl rfl)))) _ _ (fun _ => .inl rfl)
end Go.Proofs.Ytoigddekipjkcaa
