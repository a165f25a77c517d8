/- find.Find.Add. -/
import Derived.Deep.RegionLaw
import Derived.Deep.DeepCutAuto
import Derived.Maps.AppendAt
import Derived.ArgAppend
import Derived.Test.YtoigddekipjkcaaFindQ
namespace Go.Proofs.Ytoigddekipjkcaa
set_option linter.all false
open Go Go.RowKit Go.Proofs Go.Maps
open Go.ChangeMaps (setBlock)

theorem run_append_H (w : World) (ty : TypeId) {base : Nat} {v : Value} {L : List HB} (hr : HOwn w base v L) (b : Nat) (y : HB) (hb : w.heap[b]? = some (.cells (encH y) 30 (0, 0))) (hL : L.length ≤ 1000000) (hbase : base ≤ w.heap.size) :
    ∃ v' w', (Builtin.append_ #[26, 26] ty #[v, .slice (some ⟨b, 0, none⟩) 1 1]).run Try.prog w = .ok v' w' ∧
      HOwn w' base v' (L ++ [y]) ∧ w.grownBy w' v.ownBlock ∧ (v'.ownBlock = v.ownBlock ∨ v'.ownBlock = some w.heap.size) := by
  obtain ⟨i0, hi, hz0, hz1, hz2⟩ := info_parts infoH
  have hnews : ∀ j u, (encH y).toList[j]? = some u → w.cell? ((⟨b, 0, none⟩ : Addr).add j) = some u := fun j u hj => by
    rw [Addr.add_lit, cell_of hb]; simpa using hj
  obtain ⟨v', w', hrun, h1, h2, h3, h4⟩ := run_append_own_at (P := Try.prog) w base 26 ty 30 i0 (.agg (encH zH)) 32 32 Try.underlying26 hi hz0 hz1 hz2 (size_encH _) (by decide) _ _ _ hr ⟨b, 0, none⟩ 1 1 (encH y).toList
    (by rw [length_encH]) hnews (fun u hu => by have := one_encH y; unfold oneCells at this; rw [List.all_eq_true] at this; exact this u hu) (by unfold maxLen; omega) (by omega) hbase
  refine ⟨v', w', hrun, ?_, h2, h4⟩
  have e : rowH L ++ (encH y).toList = rowH (L ++ [y]) := by rw [rowH_append, rowH_one]
  rw [e] at h1
  unfold HOwn
  simpa using h1
theorem step_append_H {ops : Array Oper} {o : Oper} {a : Act} {w : World} {K : Act → World → Prop} {Q : Exit → Act → World → Prop} {E : Prop}
    (hg : o.guard = none) (s x : Operand) (hop : o.op = Op.call { callee := Callee.builtin Builtin.append, args := #[s, x], argTypes := #[26, 26] })
    {base : Nat} {v : Value} {L : List HB} (hs : a.eval s = v) (hr : HOwn w base v L) (b : Nat) (hx : a.eval x = .slice (some ⟨b, 0, none⟩) 1 1) (y : HB) (hb : w.heap[b]? = some (.cells (encH y) 30 (0, 0))) (hL : L.length ≤ 1000000) (hbase : base ≤ w.heap.size)
    (hK : ∀ v' w', HOwn w' base v' (L ++ [y]) → w.grownBy w' v.ownBlock → (v'.ownBlock = v.ownBlock ∨ v'.ownBlock = some w.heap.size) → K (a.put o.dst v') w') :
    if Region.wanted o (yielded ops a.tmps) = true then Oper.wp Try.prog o a w K Q else E := by
  have hw : Region.wanted o (yielded ops a.tmps) = true := by simp [Region.wanted, hg]
  rw [if_pos hw]
  obtain ⟨v', w', hrun, h1, h2, h3⟩ := run_append_H w o.type hr b y hb hL hbase
  unfold Oper.wp execOp
  simp only [hop, resolve, invoke, builtin, Sem.run_bind, Sem.run_pure, Result.andThen_ok, List.map_toArray, List.map_cons, List.map_nil, hs, hx, hrun]
  exact hK v' w' h1 h2 h3
theorem run_append_U (w : World) (ty : TypeId) {base : Nat} {v : Value} {ks : List U64} (hr : URow w base v ks) (b : Nat) (y : U64) (hb : w.heap[b]? = some (.cells #[.int .u64 (y.1 : Int)] 31 (0, 0))) (hL : ks.length ≤ 1000000) (hbase : base ≤ w.heap.size) :
    ∃ v' w', (Builtin.append_ #[36, 36] ty #[v, .slice (some ⟨b, 0, none⟩) 1 1]).run Try.prog w = .ok v' w' ∧
      URow w' base v' (ks ++ [y]) ∧ w.grownBy w' v.ownBlock ∧ (v'.ownBlock = v.ownBlock ∨ v'.ownBlock = some w.heap.size) := by
  obtain ⟨i0, hi, hz0, hz1, hz2⟩ := info_parts infoU64
  have hnews : ∀ j u, (u64Cells [y])[j]? = some u → w.cell? ((⟨b, 0, none⟩ : Addr).add j) = some u := fun j u hj => by
    rw [Addr.add_lit, cell_of hb, Nat.zero_add]; simpa [u64Cells] using hj
  obtain ⟨v', w', hrun, h1, h2, h3, h4⟩ := run_append_own_at (P := Try.prog) w base 36 ty 31 i0 (.int .u64 0) 1 8 Try.underlying36 hi hz0 hz1 hz2 rfl (by decide) _ _ _ hr ⟨b, 0, none⟩ 1 1 (u64Cells [y])
    rfl hnews (fun u hu => by simp [u64Cells] at hu; subst hu; rfl) (by unfold maxLen; omega) (by omega) hbase
  refine ⟨v', w', hrun, ?_, h2, h4⟩
  have e : u64Cells ks ++ u64Cells [y] = u64Cells (ks ++ [y]) := by simp [u64Cells]
  rw [e] at h1
  unfold URow
  simpa using h1
theorem step_append_U {ops : Array Oper} {o : Oper} {a : Act} {w : World} {K : Act → World → Prop} {Q : Exit → Act → World → Prop} {E : Prop}
    (hg : o.guard = none) (s x : Operand) (hop : o.op = Op.call { callee := Callee.builtin Builtin.append, args := #[s, x], argTypes := #[36, 36] })
    {base : Nat} {v : Value} {ks : List U64} (hs : a.eval s = v) (hr : URow w base v ks) (b : Nat) (hx : a.eval x = .slice (some ⟨b, 0, none⟩) 1 1) (y : U64) (hb : w.heap[b]? = some (.cells #[.int .u64 (y.1 : Int)] 31 (0, 0))) (hL : ks.length ≤ 1000000) (hbase : base ≤ w.heap.size)
    (hK : ∀ v' w', URow w' base v' (ks ++ [y]) → w.grownBy w' v.ownBlock → (v'.ownBlock = v.ownBlock ∨ v'.ownBlock = some w.heap.size) → K (a.put o.dst v') w') :
    if Region.wanted o (yielded ops a.tmps) = true then Oper.wp Try.prog o a w K Q else E := by
  have hw : Region.wanted o (yielded ops a.tmps) = true := by simp [Region.wanted, hg]
  rw [if_pos hw]
  obtain ⟨v', w', hrun, h1, h2, h3⟩ := run_append_U w o.type hr b y hb hL hbase
  unfold Oper.wp execOp
  simp only [hop, resolve, invoke, builtin, Sem.run_bind, Sem.run_pure, Result.andThen_ok, List.map_toArray, List.map_cons, List.map_nil, hs, hx, hrun]
  exact hK v' w' h1 h2 h3
/-- What the first half of Add leaves: a leaf more, the map as it was. -/
def Half (w : World) (fb : Nat) (b : Nat) (M : List (HB × Value)) (L : List HB) (x : HB) (F : Nat → Prop) (v' : Value) (wx : World) : Prop :=
  ∃ F', FindRep wx fb v' b M (L ++ [x]) L F' ∧ Turns w wx F F'
theorem Half.close {W1 w3 : World} {fb b : Nat} {ad : Option Addr} {cap : Nat} {M : List (HB × Value)} {L : List HB} {x : HB} {F : Nat → Prop} (R : FindRep W1 fb (.slice ad L.length cap) b M L L F) {v3 : Value} {o : Obj}
    (hr : HOwn w3 0 v3 (L ++ [x])) (hg : ((W1.drew).alloc o).grownBy w3 (Value.slice ad L.length cap).ownBlock) (hl : v3.ownBlock = (Value.slice ad L.length cap).ownBlock ∨ v3.ownBlock = some ((W1.drew).alloc o).heap.size) :
    Half W1 fb b M L x F v3 (w3.setCell ⟨fb, 0, none⟩ v3) := by
  have hfb : fb < W1.heap.size := hb_lt R.own
  have hne : (Value.slice ad L.length cap).ownBlock ≠ some fb := own_ne R.own R.leaves (by decide)
  have hsz : W1.heap.size + 1 ≤ w3.heap.size := by have := hg.size; simpa using this
  have hk : ∀ j, j < W1.heap.size → (Value.slice ad L.length cap).ownBlock ≠ some j → w3.heap[j]? = W1.heap[j]? := fun j hj hn =>
    (hg.block j (by simp; omega) (fun e => hn e.symm)).trans (Below.heap_alloc W1.drew _ j hj)
  have hw3 : w3.heap[fb]? = some (.cells #[.slice ad L.length cap, .map (some b)] 72 (0, 0)) := (hk fb hfb hne).trans R.own
  have hv3 : v3.ownBlock ≠ some fb := by
    rcases hl with e | e
    · rw [e]; exact hne
    · rw [e]; simp; omega
  have hl' : ∀ j, v3.ownBlock = some j → (Value.slice ad L.length cap).ownBlock = some j ∨ j = W1.heap.size + 1 := fun j hj => by
    rcases hl with e | e
    · rw [← e]; exact .inl hj
    · rw [e] at hj; simp at hj; exact .inr hj.symm
  have hm : ∀ j, F j → (Value.slice ad L.length cap).ownBlock ≠ some j → j ≠ fb → (w3.setCell ⟨fb, 0, none⟩ v3).heap[j]? = W1.heap[j]? := fun j hj hn hne2 =>
    (Below.heap_setCell w3 _ _ j hne2).trans (hk j (R.lt j hj) hn)
  have hrow : ∀ y j, (rowOf M y).ownBlock = some j → (Value.slice ad L.length cap).ownBlock ≠ some j := fun y j hj e => by
    obtain ⟨_, ⟨e1, _⟩ | ⟨g, c1, cur, e1, _, h4, _⟩⟩ := R.m.row y
    · rw [e1] at hj; cases hj
    · rw [e1] at hj; simp [Value.ownBlock] at hj; subst hj
      exact own_ne h4 R.leaves (by decide) e
  have hmap : (Value.slice ad L.length cap).ownBlock ≠ some b := fun e => by
    obtain ⟨es, ck, hb, _⟩ := R.m.map
    obtain ⟨_, ⟨e1, _⟩ | ⟨g, c1, cur, e1, _, h4, _⟩⟩ := R.leaves
    · rw [e1] at e; cases e
    · rw [e1] at e; simp [Value.ownBlock] at e; subst e; exact ne_map h4 hb rfl
  have hbfb : b ≠ fb := fun e => by
    obtain ⟨es, ck, hb, _⟩ := R.m.map
    exact ne_map R.own hb e.symm
  refine ⟨fun j => F j ∨ v3.ownBlock = some j, ⟨?_, ?_, fun j hj => .inr hj, ⟨?_, ?_, R.m.mem, fun y j hj => .inl (R.m.foot y j hj), R.m.apart, .inl R.m.fb⟩, .inl R.ff, ?_⟩, ?_, ?_⟩
  · have := hb_setCell_same (i := 0) hw3 v3
    simpa using this
  · exact hr.same (fun j hj => Below.heap_setCell w3 _ _ j (fun e => by have e' : j = fb := e; subst e'; exact hv3 hj))
  · exact R.m.map.same (hm b R.m.fb hmap hbfb)
  · intro y
    exact (R.m.row y).same (fun j hj => hm j (R.m.foot y j hj) (hrow y j hj) (fun e => R.m.rowNe R.own (by decide) y (by rw [← e]; exact hj)))
  · rintro j (hj | hj)
    · have := R.lt j hj; simp; omega
    · simp; exact (ownsRow_lt hr hj).1
  · rintro j (hj | hj)
    · exact .inl hj
    · rcases hl' j hj with e | e
      · exact .inl (R.vf j e)
      · exact .inr (by omega)
  · refine Fr.setCell ?_ _ _ (fun _ => R.ff)
    refine ⟨hg.os, hg.tape, hg.output, by omega, fun k hk2 hn => hk k hk2 (fun e => hn (R.vf k e))⟩
/-- .. and the second half. -/
theorem FindRep.whole {w w0 w3 : World} {fb b : Nat} {v : Value} {M : List (HB × Value)} {L : List HB} {x : HB} {F : Nat → Prop} (R : FindRep w fb v b M (L ++ [x]) L F) {r : Value} {o2 : Obj}
    (hM : MapIs ekH id (setBlock w3 b o2) b (alPut M x r)) (hr : URow w3 0 r (idx L x ++ [mk64 L.length])) (h0 : ∀ j, j < w.heap.size → j ≠ b → w0.heap[j]? = w.heap[j]?) (hs0 : w.heap.size ≤ w0.heap.size) (ho : w0.os = w.os) (ht : w0.tape = w.tape) (hu : w0.output = w.output)
    (hg : w0.grownBy w3 (rowOf M x).ownBlock) (hl : r.ownBlock = (rowOf M x).ownBlock ∨ r.ownBlock = some w0.heap.size) :
    ∃ F', FindAt (setBlock w3 b o2) fb (L ++ [x]) F' ∧ Turns w (setBlock w3 b o2) F F' := by
  have hbl : b < w.heap.size := R.m.map.lt
  have hk : ∀ j, j < w.heap.size → j ≠ b → (rowOf M x).ownBlock ≠ some j → (setBlock w3 b o2).heap[j]? = w.heap[j]? := fun j hj hjb hn =>
    (hb_block_setBlock b o2 j hjb).trans ((hg.block j (by omega) (fun e => hn e.symm)).trans (h0 j hj hjb))
  have hrb : r.ownBlock ≠ some b := by
    rcases hl with e | e
    · rw [e]; exact R.m.mapNe x
    · rw [e]; simp; omega
  have hbfb : b ≠ fb := fun e => by
    obtain ⟨es, ck, hb, _⟩ := R.m.map
    exact ne_map R.own hb e.symm
  have hsz : w.heap.size ≤ w3.heap.size := Nat.le_trans hs0 hg.size
  have hmo : MapOf (setBlock w3 b o2) b (alPut M x r) (L ++ [x]) (fun j => F j ∨ r.ownBlock = some j) := by
    refine R.m.upd x r hM ?_ (fun y hy => idx_snoc_ne L hy) (by simp) (fun j hj h1 h2 => hk j (R.lt j hj) h1 h2) R.m.mapNe (fun j hj => .inl hj) (fun j hj => ⟨.inr hj, ?_⟩)
    · rw [idx_snoc_same]
      exact hr.same (fun j hj => hb_block_setBlock b o2 j (fun e => hrb (by rw [← e]; exact hj)))
    · rcases hl with e | e
      · exact .inl (by rw [← e]; exact hj)
      · refine .inr (fun hF => ?_)
        rw [e] at hj; simp at hj
        have := R.lt j hF
        omega
  have hlv : ∀ j, v.ownBlock = some j → (setBlock w3 b o2).heap[j]? = w.heap[j]? := fun j hj => by
    refine hk j (R.lt j (R.vf j hj)) (fun e => ?_) (fun e => ?_)
    · subst e
      obtain ⟨es, ck, hb, _⟩ := R.m.map
      obtain ⟨_, ⟨e1, _⟩ | ⟨g, c1, cur, e1, _, h4, _⟩⟩ := R.leaves
      · rw [e1] at hj; cases hj
      · rw [e1] at hj; simp [Value.ownBlock] at hj; subst hj; exact ne_map h4 hb rfl
    · obtain ⟨_, ⟨e1, _⟩ | ⟨g, c1, cur, e1, _, h4, _⟩⟩ := R.m.row x
      · rw [e1] at e; cases e
      · rw [e1] at e; simp [Value.ownBlock] at e; subst e
        exact own_ne h4 R.leaves (by decide) hj
  refine ⟨_, ⟨v, b, _, (hk fb (hb_lt R.own) (fun e => hbfb e.symm) (R.m.rowNe R.own (by decide) x)).trans R.own, R.leaves.same hlv, fun j hj => .inl (R.vf j hj), hmo, .inl R.ff, ?_⟩, ?_, ?_⟩
  · rintro j (hj | hj)
    · have := R.lt j hj; rw [size_setBlock]; omega
    · rw [size_setBlock]; exact (ownsRow_lt hr hj).1
  · rintro j (hj | hj)
    · exact .inl hj
    · rcases hl with e | e
      · exact .inl (R.m.foot x j (by rw [← e]; exact hj))
      · rw [e] at hj; simp at hj; exact .inr (by omega)
  · refine ⟨?_, ?_, ?_, by rw [size_setBlock]; exact hsz, fun k hk2 hn => hk k hk2 (fun e => hn (e ▸ R.m.fb)) (fun e => hn (R.m.foot x k e))⟩
    · exact hg.os.trans ho
    · exact hg.tape.trans ht
    · exact hg.output.trans hu
/-- What the append's way to the end comes to. -/
def AddEnd (wc : World) (fb b st : Nat) (L : List HB) (x : HB) (F : Nat → Prop) (rv : Value) (w0 : World) : Prop :=
  ∀ v3 w3, URow w3 0 v3 (idx L x ++ [mk64 L.length]) → w0.grownBy w3 rv.ownBlock → (v3.ownBlock = rv.ownBlock ∨ v3.ownBlock = some w0.heap.size) →
    ∃ o2, (Instr.entryStore 70 (.map (some b)) (.int .i64 (st : Nat)) v3).run Try.prog w3 = .ok () (setBlock w3 b o2) ∧ Hid (∃ F', FindAt (setBlock w3 b o2) fb (L ++ [x]) F' ∧ Turns wc (setBlock w3 b o2) F F')
theorem addEnd {w : World} {fb b st : Nat} {v : Value} {M : List (HB × Value)} {L : List HB} {x : HB} {F : Nat → Prop} (R : FindRep w fb v b M (L ++ [x]) L F) {o1 : Obj} {w0 : World}
    (hS : ∀ v : Value, ∃ o2, ∀ w2, w2.heap[b]? = some o1 → (Instr.entryStore 70 (.map (some b)) (.int .i64 (st : Nat)) v).run Try.prog w2 = .ok () (setBlock w2 b o2) ∧ MapIs ekH id (setBlock w2 b o2) b (alPut M x v))
    (hb0 : w0.heap[b]? = some o1) (h0 : ∀ j, j < w.heap.size → j ≠ b → w0.heap[j]? = w.heap[j]?) (hs0 : w.heap.size ≤ w0.heap.size) (ho : w0.os = w.os) (ht : w0.tape = w.tape) (hu : w0.output = w.output) : AddEnd w fb b st L x F (rowOf M x) w0 := by
  intro v3 w3 hr hg hl
  have hb3 : w3.heap[b]? = some o1 := (hg.block b (by have := R.m.map.lt; omega) (fun e => R.m.mapNe x e.symm)).trans hb0
  obtain ⟨o2, h2⟩ := hS v3
  obtain ⟨h3, h4⟩ := h2 w3 hb3
  exact ⟨o2, h3, R.whole h4 hr h0 hs0 ho ht hu hg hl⟩
section
variable {w : World} {fb : Nat} {L : List HB} {F : Nat → Prop}
set_option maxRecDepth 100000 in
theorem FAdd_any (h : FindAt w fb L F) (hL : L.length ≤ 100000) (x : HB) : Calls Try.prog 10 #[.pointer (some ⟨fb, 0, none⟩), .agg (encH x)] w fun e w' =>
    e = .returned (.int .u64 (L.length : Int)) ∧ ∃ F', FindAt w' fb (L ++ [x]) F' ∧ Turns w w' F F' := by
  have hL6 : L.length ≤ 1000000 := by omega
  have H := Lib.hid h; clear h
  go_enter Try.func10, Try.ntmps10
  go_upto_region 1 with fail
  refine wp_name fun W1 HW1 => ?_
  have hb0 : Below w.heap.size w W1 := by rw [HW1.out]; exact (Below.refl _ _).alloc (Nat.le_refl _) _
  have hrx : rowAt W1 ⟨w.heap.size, 0, none⟩ 32 = some (encH x) := by rw [HW1.out]; exact rowAt_whole (hb_new w _) (size_encH _).symm
  have hs1 : W1.heap.size = w.heap.size + 1 := by rw [HW1.out]; simp
  clear HW1
  have HS := Lib.hid (FSize_any (H.out.below hb0) hL6)
  obtain ⟨v, b, M, R⟩ := H.out.below hb0
  obtain ⟨ad, cap, rfl⟩ := ownsRow_shape R.leaves
  have c1 : W1.cell? ⟨fb, 0, none⟩ = some (.slice ad L.length cap) := cell_of R.own
  have f1 : W1.frozen? ⟨fb, 0, none⟩ = false := frozen_of R.own
  have HR := Lib.hid R; clear R
  have HB0 := Lib.hid hb0; clear hb0
  have hfb := hb_lt HR.out.own
  go_wp2_with fail
  refine HS.out.mono ?_
  rintro e w2 ⟨rfl, rfl⟩
  go_wp2_with fail
  have HRR : Hid (HOwn (W1.drew.alloc (.cells (encH x) 30)) 0 (.slice ad L.length cap) L) := HR.out.leaves.same (fun j hj => Below.heap_alloc W1.drew _ j (HR.out.lt j (HR.out.vf j hj)))
  have HBB : Hid ((W1.drew.alloc (.cells (encH x) 30)).heap[w.heap.size + 1]? = some (.cells (encH x) 30 (0, 0))) := by
    unfold Hid
    have := hb_new W1.drew (.cells (encH x) 30)
    rwa [show W1.drew.heap.size = w.heap.size + 1 from hs1] at this
  have hne : (Value.slice ad L.length cap).ownBlock ≠ some fb := own_ne HR.out.own HR.out.leaves (by decide)
  have HF3 : Hid (∀ w3, (W1.drew.alloc (.cells (encH x) 30)).grownBy w3 (Value.slice ad L.length cap).ownBlock → w3.heap[fb]? = some (.cells #[.slice ad L.length cap, .map (some b)] 72 (0, 0))) := by
    intro w3 hg
    exact (hg.block fb (by simp; omega) (fun e => hne e.symm)).trans ((Below.heap_alloc W1.drew _ fb hfb).trans HR.out.own)
  have HNE := Lib.hid hne; clear hne
  have c1a : (W1.alloc (.cells (encH x) 30)).cell? ⟨fb, 0, none⟩ = some (.slice ad L.length cap) := (cell_block (a := ⟨fb, 0, none⟩) (Below.heap_alloc W1 _ fb hfb)).trans c1
  go_cut [15] (fun v' wx => Half W1 fb b M L x F v' wx)
  case first =>
    go_region_law (refine step_append_H rfl _ _ rfl (L := L) rfl HRR.out (w.heap.size + 1) rfl x HBB.out hL6 (Nat.zero_le _) ?_; intro v' w3 hr3 hg3 hl3; have f3 : w3.frozen? ⟨fb, 0, none⟩ = false := frozen_of (HF3.out w3 hg3); have c3 : w3.cell? ⟨fb, 0, none⟩ = some (.slice ad L.length cap) := cell_of (HF3.out w3 hg3); obtain ⟨ad3, cap3, rfl⟩ := ownsRow_shape hr3)
    all_goals (go_wp2_with fail; go_meet; have e0 : (L ++ [x]).length = L.length + 1 := (by simp); rw [e0] at hr3 hl3; exact Half.close HR.out hr3 hg3 hl3)
  case rest =>
    have HX : Hid (rowAt wc ⟨w.heap.size, 0, none⟩ 32 = some (encH x)) := by
      obtain ⟨_, _, _, h⟩ := hcut
      exact (rowAt_block (a := ⟨w.heap.size, 0, none⟩) (h.block w.heap.size (by omega) (fun hF => by have := H.out.lt _ hF; omega)) 32).trans hrx
    obtain ⟨F2, R2, T2⟩ := hcut
    have hLm := R2.m.look (W := wc) rfl x
    obtain ⟨st, o1, hE, hS⟩ := MapIs.entry keyH Try.underlying70 zeroNums R2.m.map x
    have hE' : ∀ w1, w1.heap[b]? = wc.heap[b]? → (Instr.mapEntry 70 (.map (some b)) (.agg (encH x))).run Try.prog w1 = .ok (.tuple #[rowOf M x, .int .i64 (st : Nat)]) (setBlock w1 b o1) := fun w1 h1 => by
      have := hE w1 h1
      simpa [rowOf, ekH] using this
    have hbl : b < wc.heap.size := R2.m.map.lt
    have hE2 := hE' ((wc.alloc (.cells #[.int .u64 (L.length : Int)] 31)).drew) (Below.heap_alloc wc.drew _ b hbl)
    have HEb : Hid (AddEnd wc fb b st L x F2 (rowOf M x) (setBlock (wc.drew.alloc (.cells #[.int .u64 (L.length : Int)] 31)) b o1)) := by
      refine addEnd R2 hS ?_ (fun j hj hn => (hb_block_setBlock b o1 j hn).trans (Below.heap_alloc wc.drew _ j hj)) (by simp [size_setBlock]) rfl rfl rfl
      obtain ⟨es, ck, hb, _⟩ := R2.m.map
      exact hb_setBlock_same (w := wc.drew.alloc _) ((Below.heap_alloc wc.drew _ b hbl).trans hb) o1
    have hrne : ∀ j, (rowOf M x).ownBlock = some j → j < wc.heap.size ∧ j ≠ b := fun j hj => ⟨R2.lt j (R2.m.foot x j hj), fun e => R2.m.mapNe x (by rw [← e]; exact hj)⟩
    have HUb : Hid (URow (setBlock (wc.drew.alloc (.cells #[.int .u64 (L.length : Int)] 31)) b o1) 0 (rowOf M x) (idx L x)) := (R2.m.row x).same (fun j hj => (hb_block_setBlock b o1 j (hrne j hj).2).trans (Below.heap_alloc wc.drew _ j (hrne j hj).1))
    have hm64 : (mk64 L.length).1 = L.length := mk64_val (by omega)
    have HBb : Hid ((setBlock (wc.drew.alloc (.cells #[.int .u64 (L.length : Int)] 31)) b o1).heap[wc.heap.size]? = some (.cells #[.int .u64 ((mk64 L.length).1 : Int)] 31 (0, 0))) := by
      unfold Hid
      rw [hm64]
      exact (hb_block_setBlock b o1 wc.heap.size (by omega)).trans (hb_new wc.drew _)
    have cb1 : wc.cell? ⟨fb, 1, none⟩ = some (.map (some b)) := cell_of R2.own
    have hcx := HX.out
    have hil := idx_length L x
    have hrx1 : rowAt (wc.alloc (.cells #[.int .u64 (L.length : Int)] 31)) ⟨w.heap.size, 0, none⟩ 32 = some (encH x) := (rowAt_block (a := ⟨w.heap.size, 0, none⟩) (Below.heap_alloc wc _ _ (rowAt_lt (a := ⟨w.heap.size, 0, none⟩) hcx)) 32).trans hcx
    have cb2 : (wc.alloc (.cells #[.int .u64 (L.length : Int)] 31)).cell? ⟨fb, 1, none⟩ = some (.map (some b)) := (cell_block (a := ⟨fb, 1, none⟩) (Below.heap_alloc wc _ fb (hb_lt R2.own))).trans cb1
    have HT : Hid (Turns w wc F F2) := by
      refine ⟨fun j hj => (T2.1 j hj).imp id (fun h => by omega), ?_⟩
      exact ((Fr.of_below HB0.out).trans T2.2 (fun _ h => h) (fun _ _ h => h))
    obtain ⟨rv, hrv⟩ : ∃ rv, rowOf M x = rv := ⟨_, rfl⟩
    rw [hrv] at hE2 HEb HUb
    have HR2 := Lib.hid R2; clear R2 T2 hLm hE hE' hS hrne hrv
    have HWS := Lib.hid (HT.out.2.size)
    clear hrx
    go_wp2_with fail
    go_region_law (refine step_append_U rfl _ _ rfl (ks := idx L x) rfl HUb.out wc.heap.size rfl (mk64 L.length) HBb.out (by omega) (Nat.zero_le _) ?_; intro v3 w3 hr3 hg3 hl3; obtain ⟨o2, hrun3, hfin⟩ := HEb.out v3 w3 hr3 hg3 hl3; clear hr3 hg3 hl3)
    all_goals
      go_wp2_with fail
      go_ret
      obtain ⟨F3, h1, h2, h3⟩ := hfin.out
      exact ⟨rfl, F3, h1, fun j hj => (h2 j hj).elim (HT.out.1 j) (fun h => .inr (by have := HWS.out; omega)), HT.out.2.trans h3 (fun _ h => h) (fun j hjl hj => (HT.out.1 j hj).elim id (fun h => by omega))⟩
end
end Go.Proofs.Ytoigddekipjkcaa
