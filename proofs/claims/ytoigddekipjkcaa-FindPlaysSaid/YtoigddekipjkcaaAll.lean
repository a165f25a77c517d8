/- store.All's iterator. -/
import Derived.Test.YtoigddekipjkcaaLive
import Derived.Test.YtoigddekipjkcaaSortRow
import Derived.Test.YtoigddekipjkcaaStill
namespace Go.Proofs.Ytoigddekipjkcaa
set_option linter.all false
open Go Go.RowKit Go.Proofs Go.Maps Go.Shelf
open Go.ChangeMaps (setBlock)
attribute [local go_sem] Oper.semAt_some

/-- What a round of a loop over All must leave as it lay. -/
def keepsO : Obj → Bool
  | .cells _ t _ => t == 102 || t == 87 || t == 49 || t == 80 || t == 110
  | .map _ _ => true
  | _ => false
def KpS (W W' : World) : Prop := W.heap.size ≤ W'.heap.size ∧ ∀ (j : Nat) (o : Obj), W.heap[j]? = some o → keepsO o = true → W'.heap[j]? = some o
theorem KpS.refl (W : World) : KpS W W := ⟨Nat.le_refl _, fun _ _ h _ => h⟩
theorem KpS.trans {A B C : World} (h : KpS A B) (k : KpS B C) : KpS A C := ⟨Nat.le_trans h.1 k.1, fun j o ho hk => k.2 j o (h.2 j o ho hk) hk⟩
theorem KpS.below {A B : World} (h : Below A.heap.size A B) : KpS A B := ⟨h.size, fun j o ho _ => (h.block j (hb_lt ho)).trans ho⟩
theorem KpS.alloc (A : World) (o : Obj) : KpS A (A.alloc o) := KpS.below ((Below.refl _ A).alloc (Nat.le_refl _) o)
theorem kpS_b {w : World} (W : World) (l : Nat) (o o' : Obj) (_ : w.heap.size ≤ l) (h : W.heap[l]? = some o) (hc : o.isCells = false) (hw : o.isWalk = false) : KpS W (W.putObj l o') := by
  refine ⟨by simp, fun j p hp hk => ?_⟩
  by_cases hj : j = l
  · subst hj
    rw [h] at hp; cases hp
    cases o <;> simp [keepsO, Obj.isCells, Obj.isWalk] at *
  · exact (World.putObj_heap_other hj).trans hp
theorem wpIn_name {F : Fence} {n : Nat} {P : Program} {c : Code} {Q : Exit → Act → World → Prop} {a : Act} {w : World} (h : ∀ W, Hid (W = w) → c.wpIn F n P Q a W) : c.wpIn F n P Q a w := h w rfl
def AllPost (L : List NL) (J Jx : List PH → World → Prop) (e : Ending) (W' : World) : Prop := (∃ v, e = .returned v) ∧ ((∃ ps : List PH, ps = liveL L ∧ J ps W') ∨ (∃ pre : List PH, pre <+: liveL L ∧ Jx pre W'))
@[go_sem ↓] theorem semAt_load (ro : Option Nat) (ev : Operand → Value) (d : Option Tmp) (T : TypeId) (x : Operand) (ty : TypeId) (pos : String) (after : Array Edge) (g : Option (Nat × Bool)) (P : Program) (w : World) :
    (Oper.semAt ro ev { dst := d, op := .load T x, type := ty, pos := pos, after := after, guard := g }).run P w = (execOp ev { dst := d, op := .load T x, type := ty, pos := pos, after := after, guard := g }).run P w := by
  rw [Oper.semAt_eq _ _ _ (fun c h => by cases h)]
@[go_sem ↓] theorem semAt_store (ro : Option Nat) (ev : Operand → Value) (d : Option Tmp) (T : TypeId) (x y : Operand) (ty : TypeId) (pos : String) (after : Array Edge) (g : Option (Nat × Bool)) (P : Program) (w : World) :
    (Oper.semAt ro ev { dst := d, op := .store T x y, type := ty, pos := pos, after := after, guard := g }).run P w = (execOp ev { dst := d, op := .store T x y, type := ty, pos := pos, after := after, guard := g }).run P w := by
  rw [Oper.semAt_eq _ _ _ (fun c h => by cases h)]
@[go_sem ↓] theorem semAt_alloc (ro : Option Nat) (ev : Operand → Value) (d : Option Tmp) (T : TypeId) (ty : TypeId) (pos : String) (after : Array Edge) (g : Option (Nat × Bool)) (P : Program) (w : World) :
    (Oper.semAt ro ev { dst := d, op := .alloc T, type := ty, pos := pos, after := after, guard := g }).run P w = (execOp ev { dst := d, op := .alloc T, type := ty, pos := pos, after := after, guard := g }).run P w := by
  rw [Oper.semAt_eq _ _ _ (fun c h => by cases h)]
@[go_sem ↓] theorem semAt_build (ro : Option Nat) (ev : Operand → Value) (d : Option Tmp) (T : TypeId) (xs : Array (Nat × Operand)) (ty : TypeId) (pos : String) (after : Array Edge) (g : Option (Nat × Bool)) (P : Program) (w : World) :
    (Oper.semAt ro ev { dst := d, op := .build T xs, type := ty, pos := pos, after := after, guard := g }).run P w = (execOp ev { dst := d, op := .build T xs, type := ty, pos := pos, after := after, guard := g }).run P w := by
  rw [Oper.semAt_eq _ _ _ (fun c h => by cases h)]
@[go_sem ↓] theorem semAt_buildSlice (ro : Option Nat) (ev : Operand → Value) (d : Option Tmp) (T : TypeId) (m : Nat) (xs : Array (Nat × Operand)) (ty : TypeId) (pos : String) (after : Array Edge) (g : Option (Nat × Bool)) (P : Program) (w : World) :
    (Oper.semAt ro ev { dst := d, op := .buildSlice T m xs, type := ty, pos := pos, after := after, guard := g }).run P w = (execOp ev { dst := d, op := .buildSlice T m xs, type := ty, pos := pos, after := after, guard := g }).run P w := by
  rw [Oper.semAt_eq _ _ _ (fun c h => by cases h)]
@[go_sem ↓] theorem alloc_N (ev : Operand → Value) (d : Option Tmp) (ty : TypeId) (pos : String) (after : Array Edge) (g : Option (Nat × Bool)) (w : World) :
    (execOp ev { dst := d, op := .alloc 87, type := ty, pos := pos, after := after, guard := g }).run Try.prog w = .ok (.value (.pointer (some ⟨w.heap.size, 0, none⟩))) (w.alloc (.cells nodeZ 87)) := by
  have hz : (zeroValue 87).run Try.prog w = .ok (.agg nodeZ) w := by kernel_rfl
  simp [execOp, Instr.alloc, Sem.run_bind, hz]
  rfl
theorem or_place {log k at_ : Nat} (hl : log ≤ 16) (ha : at_ < 2 ^ log) (hb : k * 2 ^ log + at_ < 18446744073709551616) :
    bits BinOp.or IntKind.u64 (IntKind.u64.wrap ((k : Int) * 2 ^ min log 64)) (IntKind.u64.wrap (at_ : Int)) = ((k * 2 ^ log + at_ : Nat) : Int) := by
  have h1 : (k : Int) * 2 ^ log = ((k * 2 ^ log : Nat) : Int) := by simp
  have e1 : IntKind.u64.wrap ((k : Int) * 2 ^ min log 64) = ((k * 2 ^ log : Nat) : Int) := by
    rw [Nat.min_eq_left (by omega), h1]; simp only [IntKind.wrap_u64]; omega
  have e2 : IntKind.u64.wrap (at_ : Int) = (at_ : Int) := by simp only [IntKind.wrap_u64]; omega
  rw [e1, e2, bits_or_u64_nat _ _ (by omega) (by omega), ← Nat.shiftLeft_eq, Nat.shiftLeft_add_eq_or_of_lt ha]
def nodeOf : ND → Array Value
  | some h => nodeV (encH h) true
  | none => nodeZ
theorem nodeOf_enc (x : ND) : (nodeOf x).toList = encNd x := by cases x with | none => exact nodeZ_none | some h => exact nodeV_some h
/-- One node of a row of nodes. -/
theorem row_node {cur : Array Value} {ns : List ND} {i : Nat} {x : ND} (hr : cur.toList.take (ns.length * 33) = rowN ns) (hx : ns[i]? = some x) : (cur.extract (i * 33) (i * 33 + 33)) = nodeOf x := by
  have hi := (List.getElem?_eq_some_iff.1 hx).1
  have hx' : ns[i] = x := (List.getElem?_eq_some_iff.1 hx).2
  apply Array.ext'
  rw [nodeOf_enc]
  have e1 : (rowN ns).drop (i * 33) = encNd x ++ rowN (ns.drop (i + 1)) := by rw [rowN_drop, List.drop_eq_getElem_cons hi, hx']; rfl
  have e2 : ((rowN ns).drop (i * 33)).take 33 = encNd x := by rw [e1, List.take_append_of_le_length (by rw [length_encNd]; omega), List.take_of_length_le (by rw [length_encNd]; omega)]
  rw [← hr, List.drop_take, List.take_take, Nat.min_eq_left (by omega)] at e2
  rw [Array.toList_extract, ← e2]
  simp [List.extract_eq_take_drop]
/-- A world that has grown alone. -/
theorem grown_of_below {A B : World} (h : Below A.heap.size A B) : A.grownBy B none := ⟨h.os, h.tape, h.output, h.size, fun k hk _ => h.block k hk⟩
theorem All_any (sb : Nat) (w : World) : Calls Try.prog 45 #[.pointer (some ⟨sb, 0, none⟩)] w fun e w' =>
    e = .returned (.func (.func 66) #[] #[.pointer (some ⟨w.heap.size, 0, none⟩)]) ∧ w' = w.alloc (.cells #[.pointer (some ⟨sb, 0, none⟩)] 49) := by
  go_enter Try.func45, Try.ntmps45
  go_wp2
  go_ret
  exact ⟨rfl, rfl⟩
attribute [local irreducible] wpStill wpListIn
set_option maxRecDepth 100000 in
set_option maxHeartbeats 1000000 in
theorem all1_in (n : Nat) (hn : 1 ≤ n) (l Bs : Nat) {sb log : Nat} {L : List NL} {F : Nat → Prop} (J Jx : List PH → World → Prop)
    (hY : ∀ pre x W, J pre W → pre.length < (liveL L).length → YieldAt Fence.wide (n - 1) Try.prog l #[.int .u64 (x.1.1 : Int), .agg (encH x.2)] W fun e W' =>
      (e = .returned (.bool true) ∧ J (pre ++ [x]) W' ∧ KpS W W') ∨ (e = .returned (.bool false) ∧ Jx (pre ++ [x]) W'))
    (W : World) (hJ : AbidesFrom W.heap.size J) (hBs : W.heap[Bs]? = some (.cells #[.pointer (some ⟨sb, 0, none⟩)] 49 (0, 0))) (hS : StoreL W sb log L F) (hL : L.length ≤ 1000000) (h0 : J [] W) :
    CallsIn Fence.wide n Try.prog 66 #[.func (.yield l) #[] #[], .pointer (some ⟨Bs, 0, none⟩)] W (AllPost L J Jx) := by
  obtain ⟨cm, pm, M, Ps, NS, NB, S⟩ := hS
  have hMl : M.length ≤ 1000000 := by
    have hnd : (M.map (fun x => x.1.1)).Nodup := by
      have h1 := S.map.nodup
      have : M.map (fun x => x.1.1) = (M.map (·.1)).map Subtype.val := by simp [Function.comp_def]
      rw [this]
      exact List.Pairwise.map _ (fun a b (hab : a ≠ b) e => hab (Subtype.ext e)) h1
    have := length_le_of_sub (l := List.range L.length) hnd (fun x hx => by
      obtain ⟨y, hy, rfl⟩ := List.mem_map.1 hx
      obtain ⟨i, _, hi⟩ := (S.key_iff y.1).1 (List.mem_map_of_mem hy)
      unfold liveAt at hi
      cases hl : (L[y.1.1 * 2 ^ log + i]?).bind (·.1) with
      | none => rw [hl] at hi; cases hi
      | some h =>
        have := live_lt hl
        have h1 : y.1.1 * 1 ≤ y.1.1 * 2 ^ log := Nat.mul_le_mul_left _ (pow_pos_16 log)
        exact List.mem_range.2 (by omega))
    simp at this; omega
  have cB : W.cell? ⟨Bs, 0, none⟩ = some (.pointer (some ⟨sb, 0, none⟩)) := cell_of hBs
  have c3 : W.cell? ⟨sb, 3, none⟩ = some (.map (some cm)) := cell_of S.cells
  have HS := Lib.hid S; clear S
  refine callsIn_of_wp Try.func66 rfl trivial ?_ rfl
  simp only [Try.ntmps66, List.size_toArray, List.length_cons, List.length_nil, Nat.reduceAdd, Nat.reduceSub, Array.replicate_succ, Array.replicate_zero, List.push_toArray, List.append_toArray, List.nil_append, List.cons_append]
  gi_wp2_with fail
  refine ⟨trivial, (callsIn_wide.2 (Keys_any cm _)).mono ?_⟩
  rintro e w1 ⟨rfl, hw1⟩
  have hB1 : Below W.heap.size W w1 := by rw [hw1]; exact (Below.refl _ W).alloc (Nat.le_refl _) _
  have hm1 : w1.cell? ⟨W.heap.size, 0, none⟩ = some (.map (some cm)) := by rw [hw1]; exact cell_of (hb_new W _)
  have hM1 : Hid (MapIs ekK evP w1 cm M) := by rw [hw1]; exact HS.out.map.alloc _
  have hs1 : W.heap.size < w1.heap.size := by rw [hw1]; simp
  clear hw1
  gi_wp2_with fail
  refine ⟨trivial, (callsIn_wide.2 (SortedFunc_any W.heap.size cm M hMl _ hs1 hm1 hM1.out)).mono ?_⟩
  rintro e w2 ⟨v, ks, rfl, hp, hsort, hrow, hB2⟩
  have hB : Below W.heap.size W w2 := hB1.trans (hB2.mono hB1.size)
  obtain ⟨ALL, hALL⟩ : ∃ a, a = allOf log ks NS := ⟨_, rfl⟩
  have hall : Hid (allOf log ks NS ks.length = liveL L) := HS.out.all_eq (by omega) hp hsort
  have HP := Lib.hid hp; clear hp
  have HSO := Lib.hid hsort; clear hsort
  have J2 : J [] w2 := hJ [] W w2 none h0 (grown_of_below hB) (fun r e => by cases e)
  have hBs2 := Lib.hid ((hB.block Bs (hb_lt hBs)).trans hBs)
  clear hm1 c3 cB
  rcases hrow with ⟨rfl, rfl⟩ | ⟨g, cap, cur, rfl, hg, hc, hk⟩
  · gi_wp2_with fail
    gi_loopg [16] 0 (fun gk v wr => v = .int .i64 0 ∧ J [] wr)
    case atStart => exact ⟨rfl, J2⟩
    case round =>
      obtain ⟨rfl, hJs⟩ := hrel
      gi_wp2_with fail
      go_end0
      refine ⟨⟨_, rfl⟩, .inl ⟨[], ?_, hJs⟩⟩
      rw [← hall.out]; rfl
  · gi_wp2_with fail
    have HC := Lib.hid hc; clear hc
    have HK := Lib.hid hk; clear hk
    have hkl : ks.length ≤ 1000000 := by have := HP.out.length_eq; simp at this; omega
    gi_loopg [16] (ks.length) (fun gk v wr => ∃ i, v = .int .i64 (i : Nat) ∧ gk + i = ks.length ∧ J (allOf log ks NS i) wr ∧ KpS w2 wr)
    case atStart => exact ⟨0, rfl, by simp, by rw [allOf_zero]; exact J2, KpS.refl _⟩
    case round =>
      obtain ⟨i, rfl, hgk, hJs, hKp⟩ := hrel
      obtain ⟨gko, hgko⟩ : ∃ x, x = gk := ⟨_, rfl⟩
      subst hgko
      obtain ⟨wo, hwo⟩ : ∃ x, x = wr := ⟨_, rfl⟩
      subst hwo
      have HG := Lib.hid hgk; clear hgk
      have HJs := Lib.hid hJs; clear hJs
      have HKp := Lib.hid hKp; clear hKp
      by_cases hi : i < ks.length
      · obtain ⟨k, hki⟩ : ∃ k, ks[i]? = some k := ⟨ks[i], List.getElem?_eq_getElem hi⟩
        have HKI := Lib.hid hki; clear hki
        have ck : wo.cell? ⟨g, i, none⟩ = some (.int .u64 (k.1 : Int)) := (cell_of (HKp.out.2 g _ HC.out rfl)).trans (HK.out i k HKI.out)
        have hi' : (i : Int) < (ks.length : Int) := by omega
        gi_wp2_with fail
        refine wpIn_name fun Wa HWa => ?_
        have hsa : Wa.heap.size = wo.heap.size + 1 := by rw [HWa.out]; simp
        have hKa : Hid (KpS w2 Wa) := by rw [HWa.out]; exact HKp.out.trans (KpS.alloc _ _)
        have hKB : KpS W Wa := (KpS.below hB).trans hKa.out
        have hbB := Lib.hid (hKB.2 Bs _ hBs rfl)
        have hbS : Hid (StoreCells Wa sb log (saOf log L).n (saOf log L).alive cm pm) := hKB.2 sb _ HS.out.cells rfl
        have hbM : Hid (MapIs ekK evP Wa cm M) := HS.out.map.same (by obtain ⟨es, ck, hh, _⟩ := HS.out.map; rw [hh]; exact hKB.2 cm _ hh rfl)
        have hbK := Lib.hid (hb_eq HWa.out (hb_new wo (.cells #[.int .u64 (k.1 : Int)] 102)))
        obtain ⟨cb, hcb⟩ : ∃ cb, alGet M k = some cb := by
          cases hg : alGet M k with
          | none => exact absurd (HP.out.mem_iff.1 (List.mem_of_getElem? HKI.out)) ((alGet_not_mem M k).1 hg)
          | some cb => exact ⟨cb, rfl⟩
        obtain ⟨⟨v, hcv, hrow, hown⟩, _, hlen⟩ := HS.out.chunk k cb hcb
        have HCB := Lib.hid hcb; clear hcb
        obtain ⟨ad, vcap, rfl⟩ := ownsRow_shape hrow
        have HROW := Lib.hid hrow; clear hrow
        have q1 : Wa.cell? ⟨Bs, 0, none⟩ = some (.pointer (some ⟨sb, 0, none⟩)) := cell_of hbB.out
        have q2 : Wa.cell? ⟨sb, 3, none⟩ = some (.map (some cm)) := cell_of hbS.out
        have q3 : Wa.cell? ⟨wo.heap.size, 0, none⟩ = some (.int .u64 (k.1 : Int)) := cell_of hbK.out
        have q4 : Wa.cell? ⟨cb, 0, none⟩ = some (.slice ad (NS k).length vcap) := cell_of (hKB.2 cb _ hcv rfl)
        have hlk : ∀ m, (Instr.lookup 77 (.map (some cm)) (.agg #[.int .u64 (k.1 : Int)]) false).run Try.prog (Wa.drewN m) = .ok (.pointer (some ⟨cb, 0, none⟩)) (Wa.drewN m) := fun m => by
          have := MapIs.lookup keyE Try.underlying77 zeroPtr (hbM.out.drewN m) k false
          simp only [ekK, HCB.out] at this
          exact this
        gi_quiet (fail)
        have hpos : 0 < (NS k).length := Nat.lt_of_lt_of_le ‹0 < liveN (NS k)› (liveN_le _)
        obtain ⟨gn, rfl⟩ := ownsRow_pos HROW.out hpos
        obtain ⟨curN, hcn, hn1, hn2, hn3⟩ := ownsRow_block HROW.out
        have HCN := Lib.hid hcn; clear hcn
        have hpw := pow_le_16 HS.out.hlog
        have hlen' : (NS k).length ≤ 65536 := Nat.le_trans hlen (by simpa [saOf] using hpw)
        have hJa : Hid (J (allOf log ks NS i ++ chunkOf log k.1 (NS k) 0) (Wa.drewN nq)) := by
          rw [chunkOf_zero, List.append_nil]
          exact hJ _ _ _ none (hJ _ _ Wa none HJs.out (by rw [HWa.out]; exact World.grownBy_alloc wo _ none) (fun r e => by cases e)) ⟨rfl, rfl, rfl, Nat.le_refl _, fun _ _ _ => rfl⟩ (fun r e => by cases e)
        clear hlk q4 hpw
        gi_wp2_with fail
        gi_loopg [30] ((NS k).length) (fun g2 v wx => ∃ at_, v = .int .i64 (at_ : Nat) ∧ g2 + at_ = (NS k).length ∧ J (allOf log ks NS i ++ chunkOf log k.1 (NS k) at_) wx ∧ KpS Wa wx)
        case atStart => exact ⟨0, rfl, by simp, hJa.out, Nat.le_refl _, fun j o h _ => h⟩
        case round =>
          obtain ⟨at_, rfl, hg2, hJi, hKi⟩ := hrel
          have HG2 := Lib.hid hg2; clear hg2
          have HJi := Lib.hid hJi; clear hJi
          have HKi := Lib.hid hKi; clear hKi
          by_cases hat : at_ < (NS k).length
          · have hat' : (at_ : Int) < ((NS k).length : Int) := by omega
            obtain ⟨x, hx⟩ : ∃ x, (NS k)[at_]? = some x := ⟨(NS k)[at_], List.getElem?_eq_getElem hat⟩
            have HX := Lib.hid hx; clear hx
            have hcnx : Hid (wr.heap[gn]? = some (.cells curN 87 (0, 0))) := HKi.out.2 gn _ (hKB.2 gn _ HCN.out rfl) rfl
            have q5 : rowAt wr ⟨gn, at_ * 33, none⟩ 33 = some (nodeOf x) := by
              rw [rowAt_of hcnx.out (by omega), row_node hn3 HX.out]
            have sN : (nodeOf x).size = 33 := by cases x <;> simp [nodeOf, nodeZ, size_nodeV]
            have oN : oneCells (nodeOf x) = true := by cases x <;> simp [nodeOf, nodeZ, one_nodeV]
            have fN : rowFree (wr.alloc (.cells nodeZ 87)) ⟨wr.heap.size, 0, none⟩ 33 = true := rowFree_of (hb_new wr _) (by rw [size_nodeZ]; omega)
            gi_wp2_with fail
            refine wpIn_name fun Wb HWb => ?_
            have hsb : Wb.heap.size = wr.heap.size + 1 := by rw [HWb.out, size_putRow]; simp
            have hbW : Below wr.heap.size wr Wb := by rw [HWb.out]; exact below_putRow ((Below.refl _ wr).alloc (Nat.le_refl _) _) (Nat.le_refl _) _
            have hbX : Hid (Wb.heap[wr.heap.size]? = some (.cells (nodeOf x) 87 (0, 0))) := by
              have h1 := hb_eq HWb.out (hb_putRow_same (off := 0) (hb_new wr (.cells nodeZ 87)) (nodeOf x).toList)
              have e : splice nodeZ 0 (nodeOf x).toList = nodeOf x := by
                apply Array.ext'
                have z : nodeZ.size = 33 := size_nodeZ
                simp [splice, sN, ← z]
              rw [e] at h1; exact h1
            have hKb : KpS Wa Wb := HKi.out.trans (KpS.below hbW)
            have HJb : Hid (J (allOf log ks NS i ++ chunkOf log k.1 (NS k) at_) Wb.drew) := hJ _ _ _ none (hJ _ _ Wb none HJi.out (grown_of_below hbW) (fun r e => by cases e)) ⟨rfl, rfl, rfl, Nat.le_refl _, fun _ _ _ => rfl⟩ (fun r e => by cases e)
            clear q5 fN
            cases x with
            | none =>
              have p1 : Wb.cell? ⟨wr.heap.size, 32, none⟩ = some (.bool false) := (cell_of (i := 32) hbX.out).trans (by show ((encH zH).push (Value.bool false))[32]? = _; rw [Array.getElem?_push, if_pos (size_encH zH).symm])
              refine wpIn_region_still_tail 16 (loose_wide _ _) (by kernel_rfl) (by kernel_rfl) (by kernel_rfl) ?_
              simp only [List.take_succ_cons, List.take_zero, List.drop_succ_cons, List.drop_zero]
              iterate 3
                refine wpStill_want (by kernel_rfl) (fun K hK => ?_)
                go_simp
                refine hK _ ?_
                clear hK K
              iterate 13 refine wpStill_skip (by kernel_rfl) ?_
              refine wpStill_nil ?_
              change wpListIn _ _ _ _ _ _ _ Wb.drew
              refine wpListIn_skip_loose (loose_wide _ _) (by kernel_rfl) ?_
              refine wpListIn_skip_loose (loose_wide _ _) (by kernel_rfl) ?_
              go_simp
              gi_wp2_with fail
              gi_roundg (gk - 1)
              case measure => have := HG2.out; omega
              case rel =>
                refine ⟨at_ + 1, by simp, by have := HG2.out; omega, ?_, hKb.1, fun j o ho hk => hKb.2 j o ho hk⟩
                rw [chunkOf_dead _ _ _ _ HX.out]; exact HJb.out
            | some h =>
              have p1 : Wb.cell? ⟨wr.heap.size, 32, none⟩ = some (.bool true) := (cell_of (i := 32) hbX.out).trans (by show ((encH h).push (Value.bool true))[32]? = _; rw [Array.getElem?_push, if_pos (size_encH h).symm])
              have p2 : Wb.cell? ⟨wo.heap.size, 0, none⟩ = some (.int .u64 (k.1 : Int)) := cell_of (hKb.2 _ _ hbK.out rfl)
              have p3 : Wb.cell? ⟨Bs, 0, none⟩ = some (.pointer (some ⟨sb, 0, none⟩)) := cell_of (hKb.2 _ _ hbB.out rfl)
              have p4 : Wb.cell? ⟨sb, 0, none⟩ = some (.int .i64 (log : Int)) := cell_of (hKb.2 _ _ hbS.out rfl)
              have p5 : rowAt Wb ⟨wr.heap.size, 0, none⟩ 32 = some (encH h) := by
                rw [rowAt_of hbX.out (by rw [sN]; omega)]
                congr 1
                apply Array.ext'
                simp [nodeOf, nodeV, size_encH]
              refine wpIn_region_still_tail 16 (loose_wide _ _) (by kernel_rfl) (by kernel_rfl) (by kernel_rfl) ?_
              simp only [List.take_succ_cons, List.take_zero, List.drop_succ_cons, List.drop_zero]
              iterate 16
                refine wpStill_want (by kernel_rfl) (fun K hK => ?_)
                go_simp
                refine hK _ ?_
                clear hK K
              refine wpStill_nil ?_
              change wpListIn _ _ _ _ _ _ _ Wb.drew
              have hliv := (HS.out.live_iff HCB.out at_ h).1 HX.out
              have hplace : k.1 * 2 ^ log + at_ < 18446744073709551616 := by have := live_lt hliv.2; omega
              rw [or_place (log := log) HS.out.hlog hliv.1 hplace]
              have hpre : allOf log ks NS i ++ chunkOf log k.1 (NS k) (at_ + 1) <+: liveL L := by rw [← hall.out]; exact part_prefix log ks NS i (at_ + 1) k HKI.out
              rw [chunkOf_live _ _ _ _ _ HX.out, ← List.append_assoc] at hpre
              obtain ⟨fn, tmps, assign, body, hy, hR⟩ := hY _ (mk64 (k.1 * 2 ^ log + at_), h) _ HJb.out (by have := hpre.length_le; simp at this ⊢; omega)
              rw [mk64_val hplace] at hy
              have HPRE := Lib.hid hpre; clear hpre
              have HPL := Lib.hid hplace; clear hplace
              clear hliv
              obtain ⟨N, hN⟩ : ∃ N, k.1 * 2 ^ log + at_ = N := ⟨_, rfl⟩
              rw [hN] at hy hR HPRE ⊢
              have hNN := Lib.hid hN
              clear hN HPL
              gi_wp2_with fail
              refine hR.mono ?_
              rintro e W3 (⟨rfl, hJ3, hk3⟩ | ⟨rfl, hJx3⟩)
              · have HJ3 := Lib.hid hJ3; clear hJ3
                have HK3 := Lib.hid hk3; clear hk3 hR
                gi_wp2_with fail
                gi_roundg (gk - 1)
                case measure => have := HG2.out; omega
                case rel =>
                  refine ⟨at_ + 1, by simp, by have := HG2.out; omega, ?_, hKb.trans ⟨HK3.out.1, HK3.out.2⟩⟩
                  rw [chunkOf_live _ _ _ _ _ HX.out, ← List.append_assoc, hNN.out]; exact HJ3.out
              · have HJx3 := Lib.hid hJx3; clear hJx3 hR
                gi_wp2_with fail
                refine bodyPost_ret (results_none rfl _ _ _) rfl ?_
                exact ⟨⟨_, rfl⟩, .inr ⟨_, HPRE.out, HJx3.out⟩⟩
          · have hat' : ¬ (at_ : Int) < ((NS k).length : Int) := by omega
            have e : at_ = (NS k).length := by have := HG2.out; omega
            gi_wp2_with fail
            gi_roundg (gko - 1)
            case measure => have := HG.out; omega
            case rel =>
              refine ⟨i + 1, by simp, by have := HG.out; omega, ?_, hKa.out.trans HKi.out⟩
              rw [allOf_succ log ks NS i k HKI.out, ← e]; exact HJi.out
      · have hi' : ¬ (i : Int) < (ks.length : Int) := by omega
        gi_wp2_with fail
        go_end0
        have e : i = ks.length := by have := HG.out; omega
        refine ⟨⟨_, rfl⟩, .inl ⟨_, ?_, HJs.out⟩⟩
        rw [e]; exact hall.out
def encP (x : PH) : Array Value := #[.int .u64 (x.1.1 : Int), .agg (encH x.2)]
theorem all_stops (n : Nat) (hn : 1 ≤ n) (Bs : Nat) {sb log : Nat} {L : List NL} {F : Nat → Prop} (w : World) (hBs : w.heap[Bs]? = some (.cells #[.pointer (some ⟨sb, 0, none⟩)] 49 (0, 0))) (hS : StoreL w sb log L F) (hL : L.length ≤ 1000000) :
    SeqStopsK Fence.wide n Try.prog 66 #[.pointer (some ⟨Bs, 0, none⟩)] encP KpS (fun ps => ps = liveL L) (fun pre => pre <+: liveL L) (liveL L).length w := fun l J Jx W hW hJ _ hY h0 =>
  all1_in n hn l Bs J Jx hY W hJ ((hW.block Bs (hb_lt hBs)).trans hBs) (hS.below hW) hL h0
theorem kpS_t {A B C : World} (h : KpS A B) (k : KpS B C) : KpS A C := h.trans k
end Go.Proofs.Ytoigddekipjkcaa
