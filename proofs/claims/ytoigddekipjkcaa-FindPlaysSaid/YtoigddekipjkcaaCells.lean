/- Values of several cells (arrays, structs): read and written whole. -/
import Derived.Test.YtoigddekipjkcaaBase
import Derived.Laws.CopyRow
namespace Go.Proofs.Ytoigddekipjkcaa
set_option linter.all false
open Go Go.RowKit
open Go.ChangeMaps (setBlock)

/-- The n cells from a on, if they lie in one row. -/
def rowAt (w : World) (a : Addr) (n : Nat) : Option (Array Value) :=
  match w.heap[a.block]? with
  | some (.cells c _ _) => if a.spot.isNone = true ∧ a.off + n ≤ c.size then some (c.extract a.off (a.off + n)) else none
  | _ => none
/-- .. and none of the block is frozen. -/
def rowFree (w : World) (a : Addr) (n : Nat) : Bool :=
  match w.heap[a.block]? with
  | some (.cells c _ f) => decide (f = (0, 0) ∧ a.spot = none ∧ a.off + n ≤ c.size)
  | _ => false
def splice (c : Array Value) (off : Nat) (vs : List Value) : Array Value := (c.toList.take off ++ vs ++ c.toList.drop (off + vs.length)).toArray
def putRow (w : World) (a : Addr) (vs : List Value) : World :=
  match w.heap[a.block]? with
  | some (.cells c _ _) => w.setRow a.block (splice c a.off vs)
  | _ => w
def oneCells (c : Array Value) : Bool := c.toList.all (·.oneCell')

theorem rowAt_of {w : World} {b off n : Nat} {c : Array Value} {t : TypeId} {f : Nat × Nat} (h : w.heap[b]? = some (.cells c t f)) (hn : off + n ≤ c.size) :
    rowAt w ⟨b, off, none⟩ n = some (c.extract off (off + n)) := by simp [rowAt, h, hn]
theorem rowAt_whole {w : World} {b n : Nat} {c : Array Value} {t : TypeId} {f : Nat × Nat} (h : w.heap[b]? = some (.cells c t f)) (hn : n = c.size) :
    rowAt w ⟨b, 0, none⟩ n = some c := by subst hn; simp [rowAt, h]
theorem rowFree_of {w : World} {b off n : Nat} {c : Array Value} {t : TypeId} (h : w.heap[b]? = some (.cells c t (0, 0))) (hn : off + n ≤ c.size) :
    rowFree w ⟨b, off, none⟩ n = true := by simp [rowFree, h, hn]
theorem putRow_of {w : World} {b off : Nat} {c : Array Value} {t : TypeId} {f : Nat × Nat} (h : w.heap[b]? = some (.cells c t f)) (vs : List Value) :
    putRow w ⟨b, off, none⟩ vs = w.setRow b (splice c off vs) := by simp [putRow, h]
theorem hb_putRow_same {w : World} {b off : Nat} {c : Array Value} {t : TypeId} {f : Nat × Nat} (h : w.heap[b]? = some (.cells c t f)) (vs : List Value) :
    (putRow w ⟨b, off, none⟩ vs).heap[b]? = some (.cells (splice c off vs) t f) := by
  rw [putRow_of h]
  exact setRow_heap w b c _ t f h
theorem hb_putRow_other {w : World} {k : Nat} (a : Addr) (vs : List Value) (hn : k ≠ a.block) : (putRow w a vs).heap[k]? = w.heap[k]? := by
  unfold putRow
  split
  · exact setRow_other w a.block k _ hn
  · rfl
@[go_sem] theorem size_putRow (w : World) (a : Addr) (vs : List Value) : (putRow w a vs).heap.size = w.heap.size := by
  unfold putRow
  split
  · exact size_setRow w a.block _
  · rfl
theorem Fr.putRow {S : Nat → Prop} {x w : World} (h : Fr S x w) (a : Addr) (vs : List Value) (hp : a.block < x.heap.size → S a.block) : Fr S x (putRow w a vs) := by
  refine ⟨?_, ?_, ?_, by rw [size_putRow]; exact h.size, fun k hk hn => ?_⟩
  · unfold Proofs.Ytoigddekipjkcaa.putRow; split <;> exact h.os
  · unfold Proofs.Ytoigddekipjkcaa.putRow; split <;> exact h.tape
  · unfold Proofs.Ytoigddekipjkcaa.putRow; split <;> exact h.output
  · rw [hb_putRow_other a vs (fun e : k = a.block => hn (e ▸ hp (e ▸ hk)))]; exact h.block k hk hn

/-! rowAt, rowFree behind each kind of step -/
section
variable (w : World)
theorem rowAt_block {w w' : World} {a : Addr} (h : w'.heap[a.block]? = w.heap[a.block]?) (n : Nat) : rowAt w' a n = rowAt w a n := by simp only [rowAt, h]
theorem rowFree_block {w w' : World} {a : Addr} (h : w'.heap[a.block]? = w.heap[a.block]?) (n : Nat) : rowFree w' a n = rowFree w a n := by simp only [rowFree, h]
@[go_sem] theorem rowAt_drew (a : Addr) (n : Nat) : rowAt w.drew a n = rowAt w a n := rfl
@[go_sem] theorem rowAt_drewN (a : Addr) (m n : Nat) : rowAt (w.drewN m) a n = rowAt w a n := rfl
@[go_sem] theorem rowFree_drew (a : Addr) (n : Nat) : rowFree w.drew a n = rowFree w a n := rfl
@[go_sem] theorem rowFree_drewN (a : Addr) (m n : Nat) : rowFree (w.drewN m) a n = rowFree w a n := rfl
@[go_sem] theorem rowAt_alloc_new (c : Array Value) (t : TypeId) (b n : Nat) (hb : b = w.heap.size) (hn : c.size = n) : rowAt (w.alloc (.cells c t)) ⟨b, 0, none⟩ n = some c := by
  subst hb hn; exact rowAt_whole (hb_new w _) rfl
@[go_sem] theorem rowFree_alloc_new (c : Array Value) (t : TypeId) (b off n : Nat) (hb : b = w.heap.size) (hn : off + n ≤ c.size) : rowFree (w.alloc (.cells c t)) ⟨b, off, none⟩ n = true := by
  subst hb; exact rowFree_of (hb_new w _) hn
@[go_sem] theorem rowAt_alloc_past (o : Obj) (b off n : Nat) (hb : b < w.heap.size) : rowAt (w.alloc o) ⟨b, off, none⟩ n = rowAt w ⟨b, off, none⟩ n :=
  rowAt_block (Below.heap_alloc w o b hb) n
@[go_sem] theorem rowFree_alloc_past (o : Obj) (b off n : Nat) (hb : b < w.heap.size) : rowFree (w.alloc o) ⟨b, off, none⟩ n = rowFree w ⟨b, off, none⟩ n :=
  rowFree_block (Below.heap_alloc w o b hb) n
@[go_sem] theorem rowAt_setCell_other (a : Addr) (v : Value) (b off n : Nat) (hb : b ≠ a.block) : rowAt (w.setCell a v) ⟨b, off, none⟩ n = rowAt w ⟨b, off, none⟩ n :=
  rowAt_block (Below.heap_setCell w a v b hb) n
@[go_sem] theorem rowFree_setCell_other (a : Addr) (v : Value) (b off n : Nat) (hb : b ≠ a.block) : rowFree (w.setCell a v) ⟨b, off, none⟩ n = rowFree w ⟨b, off, none⟩ n :=
  rowFree_block (Below.heap_setCell w a v b hb) n
@[go_sem] theorem rowAt_putRow_other (a : Addr) (vs : List Value) (b off n : Nat) (hb : b ≠ a.block) : rowAt (putRow w a vs) ⟨b, off, none⟩ n = rowAt w ⟨b, off, none⟩ n :=
  rowAt_block (hb_putRow_other a vs hb) n
@[go_sem] theorem rowFree_putRow_other (a : Addr) (vs : List Value) (b off n : Nat) (hb : b ≠ a.block) : rowFree (putRow w a vs) ⟨b, off, none⟩ n = rowFree w ⟨b, off, none⟩ n :=
  rowFree_block (hb_putRow_other a vs hb) n
theorem cell_block {w w' : World} {a : Addr} (h : w'.heap[a.block]? = w.heap[a.block]?) : w'.cell? a = w.cell? a := by simp only [World.cell?, h]
theorem frozen_block {w w' : World} {a : Addr} (h : w'.heap[a.block]? = w.heap[a.block]?) : w'.frozen? a = w.frozen? a := by simp only [World.frozen?, h]
@[go_sem] theorem cell_putRow_other (a : Addr) (vs : List Value) (b off : Nat) (hb : b ≠ a.block) : (putRow w a vs).cell? ⟨b, off, none⟩ = w.cell? ⟨b, off, none⟩ :=
  cell_block (hb_putRow_other a vs hb)
@[go_sem] theorem frozen_putRow_other (a : Addr) (vs : List Value) (b off : Nat) (hb : b ≠ a.block) : (putRow w a vs).frozen? ⟨b, off, none⟩ = w.frozen? ⟨b, off, none⟩ :=
  frozen_block (hb_putRow_other a vs hb)
theorem hb_block_setBlock {w : World} (d : Nat) (x : Obj) (k : Nat) (hn : k ≠ d) : (setBlock w d x).heap[k]? = w.heap[k]? := by
  show (w.heap.setIfInBounds d x)[k]? = _
  rw [Array.getElem?_setIfInBounds_ne (fun e => hn e.symm)]
@[go_sem] theorem cell_setBlock_other (d : Nat) (x : Obj) (b off : Nat) (hb : b ≠ d) : (setBlock w d x).cell? ⟨b, off, none⟩ = w.cell? ⟨b, off, none⟩ :=
  cell_block (hb_block_setBlock d x b hb)
@[go_sem] theorem frozen_setBlock_other (d : Nat) (x : Obj) (b off : Nat) (hb : b ≠ d) : (setBlock w d x).frozen? ⟨b, off, none⟩ = w.frozen? ⟨b, off, none⟩ :=
  frozen_block (hb_block_setBlock d x b hb)
@[go_sem] theorem rowAt_setBlock_other (d : Nat) (x : Obj) (b off n : Nat) (hb : b ≠ d) : rowAt (setBlock w d x) ⟨b, off, none⟩ n = rowAt w ⟨b, off, none⟩ n :=
  rowAt_block (hb_block_setBlock d x b hb) n
@[go_sem] theorem rowFree_setBlock_other (d : Nat) (x : Obj) (b off n : Nat) (hb : b ≠ d) : rowFree (setBlock w d x) ⟨b, off, none⟩ n = rowFree w ⟨b, off, none⟩ n :=
  rowFree_block (hb_block_setBlock d x b hb) n
@[go_sem] theorem size_setBlock (d : Nat) (x : Obj) : (setBlock w d x).heap.size = w.heap.size := by simp [ChangeMaps.setBlock]
end

/-! ### the operations -/
structure AggT (P : Program) (T : TypeId) (n : Nat) : Prop where
  agg : ∀ w, (isAgg T).run P w = .ok true w
  size : ∀ w, (sizeOf T).run P w = .ok n w

def stuckHere (r : Result Next) : Result Next := r
def loadAgg (P : Program) (T : TypeId) (n : Nat) (v : Value) (w : World) : Result Next :=
  match v with
  | .pointer (some a) => match rowAt w a n with
    | some c => .ok (.value (.agg c)) w
    | none => stuckHere ((do let x ← Instr.loadAt T v; pure (Next.value x) : Sem Next).run P w)
  | _ => stuckHere ((do let x ← Instr.loadAt T v; pure (Next.value x) : Sem Next).run P w)
def storeAgg (P : Program) (T : TypeId) (n : Nat) (v x : Value) (w : World) : Result Next :=
  match v, x with
  | .pointer (some a), .agg c =>
    if c.size = n ∧ oneCells c = true ∧ rowFree w a n = true then .ok .skip (putRow w a c.toList)
    else stuckHere ((do Instr.storeAt T v x; pure Next.skip : Sem Next).run P w)
  | _, _ => stuckHere ((do Instr.storeAt T v x; pure Next.skip : Sem Next).run P w)
attribute [go_sem] loadAgg storeAgg

variable {P : Program} {T : TypeId} {n : Nat}
theorem run_loadVar_agg (h : AggT P T n) {w : World} {a : Addr} {c : Array Value} (hr : rowAt w a n = some c) : (loadVar T a).run P w = .ok (.agg c) w := by
  unfold rowAt at hr
  split at hr
  · rename_i cs t f hb
    split at hr
    · rename_i hc
      obtain ⟨hs, hl⟩ := hc
      simp only [Option.some.injEq] at hr
      obtain ⟨b, off, spot⟩ := a
      simp only at hb hs hl hr
      have hs' : spot = none := by cases spot <;> simp_all
      subst hs'
      have hlen : (cs.extract off (off + n)).toList.length = n := by simp; omega
      have hl' := run_loadCells_list (P := P) w ⟨b, off, none⟩ (cs.extract off (off + n)).toList (fun j v hv => by
        have hadd : (⟨b, off, none⟩ : Addr).add j = ⟨b, off + j, none⟩ := by unfold Addr.add; split <;> simp_all
        rw [hadd, cell_of hb]
        rw [Array.getElem?_toList, Array.getElem?_extract] at hv
        split at hv
        · exact hv
        · simp at hv)
      rw [hlen] at hl'
      simp only [Array.toArray_toList] at hl'
      simp [loadVar, Sem.run_bind, h.agg, h.size, hl', hr]
    · simp at hr
  · simp at hr
theorem run_storeVar_agg (h : AggT P T n) {w : World} {a : Addr} {c : Array Value} (hn : c.size = n) (h1 : oneCells c = true) (hr : rowFree w a n = true) :
    (storeVar T a (.agg c)).run P w = .ok () (putRow w a c.toList) := by
  unfold rowFree at hr
  split at hr
  · rename_i cs t f hb
    simp only [decide_eq_true_eq] at hr
    obtain ⟨rfl, hs, hl⟩ := hr
    obtain ⟨b, off, spot⟩ := a
    simp only at hb hs hl
    subst hs
    have hst := run_storeCells_at (P := P) b off t c.toList 0 cs w hb (by simp; omega) (fun v hv => by
      unfold oneCells at h1
      rw [List.all_eq_true] at h1
      exact h1 v hv)
    simp only [Nat.add_zero, Array.length_toList] at hst
    simp only [storeVar, Value.cells, Sem.run_bind, h.size, Result.andThen_ok, hn, ne_eq, not_true_eq_false, if_false]
    rw [putRow_of hb]
    simp only [splice, Array.length_toList]
    simpa using hst
  · simp at hr
theorem run_load_agg (h : AggT P T n) (ev : Operand → Value) (d : Option Tmp) (x : Operand) (ty : TypeId) (pos : String) (after : Array Edge) (g : Option (Nat × Bool)) (w : World) :
    (execOp ev { dst := d, op := .load T x, type := ty, pos := pos, after := after, guard := g }).run P w = loadAgg P T n (ev x) w := by
  unfold loadAgg stuckHere
  split
  · rename_i a hx
    split
    · rename_i c hc
      simp [execOp, hx, Instr.loadAt, Instr.sureAddr, run_loadVar_agg h hc]
    · simp [execOp, hx]
  · simp [execOp]
theorem run_store_agg (h : AggT P T n) (ev : Operand → Value) (d : Option Tmp) (x y : Operand) (ty : TypeId) (pos : String) (after : Array Edge) (g : Option (Nat × Bool)) (w : World) :
    (execOp ev { dst := d, op := .store T x y, type := ty, pos := pos, after := after, guard := g }).run P w = storeAgg P T n (ev x) (ev y) w := by
  unfold storeAgg stuckHere
  split
  · rename_i a c hx hy
    split
    · rename_i hc
      simp [execOp, hx, hy, Instr.storeAt, Instr.sureAddr, run_storeVar_agg h hc.1 hc.2.1 hc.2.2]
    · simp [execOp, hx, hy]
  · simp [execOp]
/-! results that lie in cells -/
theorem results_cell_tmp (h : AggT P T n) {fn : Func} {t u : Tmp} (hf : fn.results = #[.cell t T, .tmp u]) (tmps : Array Value) (w : World) {a : Addr} {c : Array Value}
    (ht : tmps.getD t undef = .pointer (some a)) (hr : rowAt w a n = some c) : (results fn tmps).run P w = .ok (.tuple #[.agg c, tmps.getD u undef]) w := by
  have ht' : tmps[t]?.getD undef = .pointer (some a) := by simpa using ht
  simp [results, hf, ht', asAddr, run_loadVar_agg h hr]
theorem results_cell (h : AggT P T n) {fn : Func} {t : Tmp} (hf : fn.results = #[.cell t T]) (tmps : Array Value) (w : World) {a : Addr} {c : Array Value}
    (ht : tmps.getD t undef = .pointer (some a)) (hr : rowAt w a n = some c) : (results fn tmps).run P w = .ok (.agg c) w := by
  have ht' : tmps[t]?.getD undef = .pointer (some a) := by simpa using ht
  simp [results, hf, ht', asAddr, run_loadVar_agg h hr]
@[go_sem] theorem rowAt_putRow_new (w : World) (c : Array Value) (t : TypeId) (b n : Nat) (vs : List Value) (hb : b = w.heap.size) (hn : c.size = n) (hv : vs.length = n) :
    rowAt (putRow (w.alloc (.cells c t)) ⟨b, 0, none⟩ vs) ⟨b, 0, none⟩ n = some vs.toArray := by
  subst hb
  have h1 := hb_putRow_same (off := 0) (hb_new w (.cells c t)) vs
  have hs : splice c 0 vs = vs.toArray := by
    apply Array.ext'
    have hc : c.toList.length = n := by simpa using hn
    simp [splice, List.drop_of_length_le, hc, hv]
  rw [hs] at h1
  exact rowAt_whole h1 (by simp [hv])
theorem rowAt_putRow_same {w : World} {c vs : Array Value} {t : TypeId} {f : Nat × Nat} {b n : Nat} (h : w.heap[b]? = some (.cells c t f)) (hn : c.size = n) (hv : vs.size = n) :
    rowAt (putRow w ⟨b, 0, none⟩ vs.toList) ⟨b, 0, none⟩ n = some vs := by
  have h1 := hb_putRow_same (off := 0) h vs.toList
  have hs : splice c 0 vs.toList = vs := by
    apply Array.ext'
    have hc : c.toList.length = n := by simpa using hn
    simp [splice, List.drop_of_length_le, hc, hv]
  rw [hs] at h1
  exact rowAt_whole h1 hv.symm
theorem below_putRow {B : Nat} {a w : World} (h : Below B a w) {p : Addr} (hp : B ≤ p.block) (vs : List Value) : Below B a (putRow w p vs) := by
  refine ⟨?_, ?_, ?_, by rw [size_putRow]; exact h.size, fun k hk => ?_⟩
  · unfold putRow; split <;> exact h.os
  · unfold putRow; split <;> exact h.tape
  · unfold putRow; split <;> exact h.output
  · rw [hb_putRow_other p vs (by omega)]; exact h.block k hk
theorem below_setBlock {B : Nat} {a w : World} (h : Below B a w) {b : Nat} (hb : B ≤ b) (o : Obj) : Below B a (setBlock w b o) :=
  ⟨h.os, h.tape, h.output, by rw [size_setBlock]; exact h.size, fun k hk => by rw [hb_block_setBlock b o k (by omega)]; exact h.block k hk⟩
end Go.Proofs.Ytoigddekipjkcaa
