/- The store's values as Lean data, and what this translation's types say of them. -/
import Derived.Test.YtoigddekipjkcaaProg
import Derived.Test.YtoigddekipjkcaaCells
import Derived.Test.YtoigddekipjkcaaArith
namespace Go.Proofs.Ytoigddekipjkcaa
set_option linter.all false
open Go Go.RowKit Go.Proofs
open Go.ChangeMaps (setBlock)

abbrev HB := {l : List UInt8 // l.length = 32}
def encH (h : HB) : Array Value := (h.1.map fun b => Value.int .u8 (b.toNat : Int)).toArray
def zH : HB := ⟨List.replicate 32 0, by simp⟩
abbrev ND := Option HB
def encNd : ND → List Value
  | some h => (encH h).toList ++ [.bool true]
  | none => (encH zH).toList ++ [.bool false]
def rowN (ns : List ND) : List Value := ns.flatMap encNd
def liveN (ns : List ND) : Nat := (ns.filter Option.isSome).length


def ekKey (k : Nat) : Value := .agg #[.int .u64 (k : Int)]
def evPtr (b : Nat) : Value := .pointer (some ⟨b, 0, none⟩)


abbrev U64 := {k : Nat // k < 18446744073709551616}
@[go_sem] theorem size_encH (h : HB) : (encH h).size = 32 := by simp [encH, h.2]
theorem oneCells_list (l : List UInt8) : oneCells (l.map fun b => Value.int .u8 (b.toNat : Int)).toArray = true := by simp [oneCells, Value.oneCell']
@[go_sem] theorem one_encH (h : HB) : oneCells (encH h) = true := oneCells_list _
theorem encH_inj {a b : HB} (h : encH a = encH b) : a = b := by
  apply Subtype.ext
  have h' : (a.1.map fun b => Value.int .u8 (b.toNat : Int)) = (b.1.map fun b => Value.int .u8 (b.toNat : Int)) := by
    have := congrArg Array.toList h
    simpa [encH] using this
  exact List.map_inj_right (fun x y e => by
    simp only [Value.int.injEq, Int.natCast_inj, true_and] at e
    exact UInt8.toNat_inj.1 e) |>.1 h'
/-- A node's cells. -/
def nodeV (c : Array Value) (b : Bool) : Array Value := c.push (.bool b)
def nodeZ : Array Value := nodeV (encH zH) false
@[go_sem] theorem size_nodeV (h : HB) (b : Bool) : (nodeV (encH h) b).size = 33 := by simp [nodeV, size_encH]
@[go_sem] theorem one_nodeV (h : HB) (b : Bool) : oneCells (nodeV (encH h) b) = true := by
  have := one_encH h
  unfold oneCells at this ⊢
  simp only [nodeV, Array.toList_push, List.all_append, this]
  rfl
@[go_sem] theorem size_nodeZ : nodeZ.size = 33 := size_nodeV _ _
@[go_sem] theorem one_nodeZ : oneCells nodeZ = true := one_nodeV _ _
theorem nodeV_some (h : HB) : (nodeV (encH h) true).toList = encNd (some h) := by simp [nodeV, encNd]
theorem nodeZ_none : nodeZ.toList = encNd none := by simp [nodeZ, nodeV, encNd]
theorem length_encNd (x : ND) : (encNd x).length = 33 := by cases x <;> simp [encNd, size_encH]
theorem length_rowN (ns : List ND) : (rowN ns).length = ns.length * 33 := by
  induction ns with
  | nil => rfl
  | cons x r ih => simp only [rowN, List.flatMap_cons, List.length_append, length_encNd, List.length_cons] at ih ⊢; omega
theorem one_encNd (x : ND) : ∀ v ∈ encNd x, v.oneCell' = true := by
  intro v hv
  cases x with
  | none =>
    rw [← nodeZ_none] at hv
    have := one_nodeZ; unfold oneCells at this; rw [List.all_eq_true] at this; exact this v hv
  | some h =>
    rw [← nodeV_some] at hv
    have := one_nodeV h true; unfold oneCells at this; rw [List.all_eq_true] at this; exact this v hv

theorem rowN_append (a b : List ND) : rowN (a ++ b) = rowN a ++ rowN b := by simp [rowN]
theorem rowN_take (l : List ND) (i : Nat) : (rowN l).take (i * 33) = rowN (l.take i) := by
  rcases Nat.lt_or_ge i l.length with h | h
  · conv => lhs; rw [← List.take_append_drop i l, rowN_append]
    rw [List.take_append_of_le_length (by rw [length_rowN, List.length_take]; omega), List.take_of_length_le (by rw [length_rowN, List.length_take]; omega)]
  · rw [List.take_of_length_le (by rw [length_rowN]; omega), List.take_of_length_le h]
theorem rowN_drop (l : List ND) (i : Nat) : (rowN l).drop (i * 33) = rowN (l.drop i) := by
  rcases Nat.lt_or_ge i l.length with h | h
  · conv => lhs; rw [← List.take_append_drop i l, rowN_append]
    rw [List.drop_append_of_le_length (by rw [length_rowN, List.length_take]; omega), List.drop_of_length_le (by rw [length_rowN, List.length_take]; omega), List.nil_append]
  · rw [List.drop_of_length_le (by rw [length_rowN]; omega), List.drop_of_length_le h]; rfl
theorem rowN_set (l : List ND) (i : Nat) (x : ND) (h : i < l.length) : rowN (l.set i x) = (rowN l).take (i * 33) ++ encNd x ++ (rowN l).drop (i * 33 + 33) := by
  rw [List.set_eq_take_append_cons_drop, if_pos h, rowN_append, rowN_take]
  have e : (rowN l).drop (i * 33 + 33) = rowN (l.drop (i + 1)) := by rw [← rowN_drop]; congr 1; omega
  rw [e]
  simp [rowN]
/-- A store of one node into a row of nodes. -/
theorem splice_row {cur : Array Value} {l : List ND} {N i : Nat} (x : ND) (hr : cur.toList.take (N * 33) = rowN l) (hl : l.length = N) (hi : i < N) (hN : N * 33 ≤ cur.size) :
    (splice cur (i * 33) (encNd x)).size = cur.size ∧ (splice cur (i * 33) (encNd x)).toList.take (N * 33) = rowN (l.set i x) := by
  have h1 : cur.toList.length = cur.size := by simp
  have h33 : i * 33 + 33 ≤ N * 33 := by omega
  constructor
  · simp only [splice, List.size_toArray, List.length_append, List.length_take, List.length_drop, length_encNd]; omega
  · have e0 : (splice cur (i * 33) (encNd x)).toList = cur.toList.take (i * 33) ++ encNd x ++ cur.toList.drop (i * 33 + 33) := by simp [splice, length_encNd]
    rw [e0, rowN_set l i x (by omega), ← hr]
    rw [List.take_append, List.take_of_length_le (by simp [length_encNd]; omega)]
    congr 1
    · congr 1
      rw [List.take_take, Nat.min_eq_left (by omega)]
    · rw [List.drop_take]
      congr 1
      simp [length_encNd]; omega
/-- The mark of a node that lives. -/
theorem rowN_live (ns : List ND) (i : Nat) (h : HB) (hx : ns[i]? = some (some h)) : (rowN ns)[i * 33 + 32]? = some (.bool true) := by
  have e : (rowN ns)[i * 33 + 32]? = ((rowN ns).drop (i * 33))[32]? := by rw [List.getElem?_drop]
  have hi := (List.getElem?_eq_some_iff.1 hx).1
  have hx' : ns[i] = some h := (List.getElem?_eq_some_iff.1 hx).2
  rw [e, rowN_drop, List.drop_eq_getElem_cons hi, hx']
  simp only [rowN, List.flatMap_cons]
  rw [List.getElem?_append_left (by rw [length_encNd]; omega)]
  simp [encNd, size_encH]
theorem rowN_dead (ns : List ND) (i : Nat) (hx : ns[i]? = some none) : (rowN ns)[i * 33 + 32]? = some (.bool false) := by
  have e : (rowN ns)[i * 33 + 32]? = ((rowN ns).drop (i * 33))[32]? := by rw [List.getElem?_drop]
  have hi := (List.getElem?_eq_some_iff.1 hx).1
  have hx' : ns[i] = none := (List.getElem?_eq_some_iff.1 hx).2
  rw [e, rowN_drop, List.drop_eq_getElem_cons hi, hx']
  simp only [rowN, List.flatMap_cons]
  rw [List.getElem?_append_left (by rw [length_encNd]; omega)]
  simp [encNd, size_encH]
/-! what the types say -/
theorem aggH : AggT Try.prog 30 32 := ⟨fun w => by kernel_rfl, fun w => by kernel_rfl⟩
theorem aggN : AggT Try.prog 87 33 := ⟨fun w => by kernel_rfl, fun w => by kernel_rfl⟩
@[go_sem ↓] theorem load_H (ev : Operand → Value) (d : Option Tmp) (x : Operand) (ty : TypeId) (pos : String) (after : Array Edge) (g : Option (Nat × Bool)) (w : World) :
    (execOp ev { dst := d, op := .load 30 x, type := ty, pos := pos, after := after, guard := g }).run Try.prog w = loadAgg Try.prog 30 32 (ev x) w := run_load_agg aggH ev d x ty pos after g w
@[go_sem ↓] theorem store_H (ev : Operand → Value) (d : Option Tmp) (x y : Operand) (ty : TypeId) (pos : String) (after : Array Edge) (g : Option (Nat × Bool)) (w : World) :
    (execOp ev { dst := d, op := .store 30 x y, type := ty, pos := pos, after := after, guard := g }).run Try.prog w = storeAgg Try.prog 30 32 (ev x) (ev y) w := run_store_agg aggH ev d x y ty pos after g w
@[go_sem ↓] theorem load_N (ev : Operand → Value) (d : Option Tmp) (x : Operand) (ty : TypeId) (pos : String) (after : Array Edge) (g : Option (Nat × Bool)) (w : World) :
    (execOp ev { dst := d, op := .load 87 x, type := ty, pos := pos, after := after, guard := g }).run Try.prog w = loadAgg Try.prog 87 33 (ev x) w := run_load_agg aggN ev d x ty pos after g w
@[go_sem ↓] theorem store_N (ev : Operand → Value) (d : Option Tmp) (x y : Operand) (ty : TypeId) (pos : String) (after : Array Edge) (g : Option (Nat × Bool)) (w : World) :
    (execOp ev { dst := d, op := .store 87 x y, type := ty, pos := pos, after := after, guard := g }).run Try.prog w = storeAgg Try.prog 87 33 (ev x) (ev y) w := run_store_agg aggN ev d x y ty pos after g w
/-- 'node{}'. -/
@[go_sem ↓] theorem build_N0 (ev : Operand → Value) (d : Option Tmp) (ty : TypeId) (pos : String) (after : Array Edge) (g : Option (Nat × Bool)) (w : World) :
    (execOp ev { dst := d, op := .build 87 #[], type := ty, pos := pos, after := after, guard := g }).run Try.prog w = .ok (.value (.agg nodeZ)) w := by
  have h : (Instr.build 87 #[]).run Try.prog w = .ok (.agg nodeZ) w := by kernel_rfl
  simp [execOp, h]
@[go_sem ↓] theorem build_H0 (ev : Operand → Value) (d : Option Tmp) (ty : TypeId) (pos : String) (after : Array Edge) (g : Option (Nat × Bool)) (w : World) :
    (execOp ev { dst := d, op := .build 30 #[], type := ty, pos := pos, after := after, guard := g }).run Try.prog w = .ok (.value (.agg (encH zH))) w := by
  have h : (Instr.build 30 #[]).run Try.prog w = .ok (.agg (encH zH)) w := by kernel_rfl
  simp [execOp, h]
@[go_sem ↓] theorem alloc_H (ev : Operand → Value) (d : Option Tmp) (ty : TypeId) (pos : String) (after : Array Edge) (g : Option (Nat × Bool)) (w : World) :
    (execOp ev { dst := d, op := .alloc 30, type := ty, pos := pos, after := after, guard := g }).run Try.prog w = .ok (.value (.pointer (some ⟨w.heap.size, 0, none⟩))) (w.alloc (.cells (encH zH) 30)) := by
  have hz : (zeroValue 30).run Try.prog w = .ok (.agg (encH zH)) w := by kernel_rfl
  simp [execOp, Instr.alloc, Sem.run_bind, hz]
  rfl
theorem foldl_put (cs : List Value) : ∀ (pre mid post : List Value) (i k : Nat), mid.length = cs.length → k + i = pre.length →
    ((cs.zipIdx i).foldl (fun (acc : Array Value) (x : Value × Nat) => acc.setIfInBounds (k + x.2) x.1) (pre ++ mid ++ post).toArray) = (pre ++ cs ++ post).toArray := by
  induction cs with
  | nil => intro pre mid post i k h _; simp at h; simp [h]
  | cons c cs ih =>
    intro pre mid post i k h hk
    cases mid with
    | nil => simp at h
    | cons q mid =>
      simp only [List.zipIdx_cons, List.foldl_cons]
      have e : (pre ++ q :: mid ++ post).toArray.setIfInBounds (k + i) c = ((pre ++ [c]) ++ mid ++ post).toArray := by
        rw [hk]; simp
      rw [e, ih (pre ++ [c]) mid post (i + 1) k (by simpa using h) (by simp; omega)]
      simp
/-- A part laid into a row of cells. -/
theorem fold_part (c cells : Array Value) (off : Nat) (h : off + c.size ≤ cells.size) :
    c.zipIdx.foldl (fun cs (x : Value × Nat) => cs.setIfInBounds (off + x.2) x.1) cells = splice cells off c.toList := by
  have h1 : cells = (cells.toList.take off ++ (cells.toList.drop off).take c.size ++ cells.toList.drop (off + c.size)).toArray := by
    apply Array.ext'
    simp only [List.append_assoc]
    rw [← List.drop_drop, List.take_append_drop, List.take_append_drop]
  rw [← Array.foldl_toList, Array.toList_zipIdx]
  conv => lhs; rw [h1]
  rw [foldl_put c.toList _ _ _ 0 off (by simp; omega) (by simp; omega)]
  simp [splice]
def isAggN (n : Nat) : Value → Bool
  | .agg c => decide (c.size = n)
  | _ => false
def boolOf : Value → Bool
  | .bool b => b
  | _ => false
@[go_sem] theorem isAggN_agg (n : Nat) (c : Array Value) : isAggN n (.agg c) = decide (c.size = n) := rfl
def okN2 : Value → Value → Bool
  | .agg c, .bool _ => decide (c.size = 32)
  | _, _ => false
@[go_sem] theorem okN2_agg (c : Array Value) (b : Bool) : okN2 (.agg c) (.bool b) = decide (c.size = 32) := rfl
@[go_sem] theorem boolOf_bool (b : Bool) : boolOf (.bool b) = b := rfl
theorem fill_two (place : Nat → Option (Nat × Nat)) (c cells : Array Value) (b : Bool) (n : Nat) (h0 : place 0 = some (0, n)) (h1 : place 1 = some (n, 1)) (hc : c.size = n) (hz : cells.size = n + 1) :
    Instr.fill place cells [(0, .agg c), (1, .bool b)] = some (nodeV c b) := by
  have e1 := fold_part c cells 0 (by omega)
  have z1 : (splice cells 0 c.toList).size = n + 1 := by simp [splice, hc, hz]
  have e2 := fold_part #[.bool b] (splice cells 0 c.toList) n (by rw [z1]; simp)
  have e3 : splice (splice cells 0 c.toList) n (#[Value.bool b] : Array Value).toList = nodeV c b := by
    apply Array.ext'
    have t1 : c.toList.length = n := by simpa using hc
    have t3 : (splice cells 0 c.toList).toList = c.toList ++ cells.toList.drop n := by simp [splice, hc]
    have t4 : (splice (splice cells 0 c.toList) n (#[Value.bool b] : Array Value).toList).toList =
        (splice cells 0 c.toList).toList.take n ++ [Value.bool b] ++ (splice cells 0 c.toList).toList.drop (n + 1) := rfl
    rw [t4, t3, List.take_append_of_le_length (by omega), List.take_of_length_le (by omega), List.drop_of_length_le (by simp [hc, hz])]
    simp [nodeV]
  unfold Instr.fill
  simp only [h0, Value.cells, hc, ne_eq, not_true_eq_false, Nat.zero_add, hz, gt_iff_lt, decide_false, Bool.false_or]
  rw [if_neg (by simp)]
  have e1' : c.zipIdx.foldl (fun cs (x : Value × Nat) => cs.setIfInBounds (0 + x.2) x.1) cells = splice cells 0 c.toList := e1
  simp only [Nat.zero_add] at e1'
  unfold Instr.fill
  simp only [h1]
  rw [e1', if_neg (by simp [z1, Value.cells])]
  unfold Instr.fill
  rw [← e3]
  exact congrArg some e2
theorem run_build_N (c : Array Value) (b : Bool) (h : c.size = 32) (w : World) : (Instr.build 87 #[(0, .agg c), (1, .bool b)]).run Try.prog w = .ok (.agg (nodeV c b)) w := by
  have hz : (zeroValue 87).run Try.prog w = .ok (.agg nodeZ) w := by kernel_rfl
  have s1 : ∀ w, (sizeOf 30).run Try.prog w = .ok 32 w := fun w => by kernel_rfl
  have s2 : ∀ w, (sizeOf 4).run Try.prog w = .ok 1 w := fun w => by kernel_rfl
  have hf := fill_two (fun i => (#[(0, 32), (32, 1)] : Array (Nat × Nat))[i]?) c nodeZ b 32 rfl rfl h size_nodeZ
  unfold Instr.build
  simp only [Sem.run_bind, hz, Result.andThen_ok, run_underlying Try.underlying87]
  simp [s1, s2, Value.cells]
  simp only [List.getElem?_toArray] at hf
  rw [hf]
  simp
@[go_sem ↓] theorem build_N2 (ev : Operand → Value) (x y : Operand) (d : Option Tmp) (ty : TypeId) (pos : String) (after : Array Edge) (g : Option (Nat × Bool)) (w : World)
    (hx : okN2 (ev x) (ev y) = true) :
    (execOp ev { dst := d, op := .build 87 #[(0, x), (1, y)], type := ty, pos := pos, after := after, guard := g }).run Try.prog w = .ok (.value (.agg (nodeV (ev x).cells (boolOf (ev y))))) w := by
  cases hvx : ev x <;> cases hvy : ev y <;> simp [okN2, hvx, hvy] at hx
  simp [execOp, hvx, hvy, run_build_N _ _ hx, boolOf, Value.cells]
theorem fill_one (place : Nat → Option (Nat × Nat)) (c cells : Array Value) (n : Nat) (h0 : place 0 = some (0, n)) (hc : c.size = n) (hz : cells.size = n) :
    Instr.fill place cells [(0, .agg c)] = some c := by
  have e1 := fold_part c cells 0 (by omega)
  have e3 : splice cells 0 c.toList = c := by
    apply Array.ext'
    simp [splice, hc, ← hz]
  unfold Instr.fill
  simp only [h0]
  rw [if_neg (by simp [Value.cells, hc, hz])]
  unfold Instr.fill
  rw [← e3]
  exact congrArg some (by rw [e3]; exact e1.trans e3)
/-- 'buildSlice' of one element of n cells. -/
theorem run_buildSlice_one {P : Program} {T E : TypeId} {n : Nat} (hT : P.underlying T = some (.slice E)) (hs : ∀ w, (sizeOf E).run P w = .ok n w) {z : Array Value} (hz : ∀ w, (zeroValue E).run P w = .ok (.agg z) w)
    (hn : 0 < n) (hn2 : n ≤ 16777216) (c : Array Value) (hc : c.size = n) (w : World) :
    (Instr.buildSlice T 1 #[(0, .agg c)]).run P w = .ok (.slice (some ⟨w.heap.size, 0, none⟩) 1 1) (w.alloc (.cells c E)) := by
  have hf := fill_one (fun i => some (i * n, n)) c ((Array.range (1 * n)).map (z[· % z.size]!)) n (by simp) hc (by simp)
  unfold Instr.buildSlice
  simp only [Sem.run_bind, run_underlying hT, Result.andThen_ok, hs]
  rw [if_neg (by omega)]
  simp only [Nat.one_mul]
  rw [if_neg (by omega)]
  simp only [Sem.run_bind, hz, Result.andThen_ok, Value.cells, Sem.run_pure]
  simp only [Nat.one_mul] at hf
  rw [hf]
  rfl
@[go_sem ↓] theorem buildSlice_N (ev : Operand → Value) (x : Operand) (d : Option Tmp) (ty : TypeId) (pos : String) (after : Array Edge) (g : Option (Nat × Bool)) (w : World)
    (hx : isAggN 33 (ev x) = true) :
    (execOp ev { dst := d, op := .buildSlice 108 1 #[(0, x)], type := ty, pos := pos, after := after, guard := g }).run Try.prog w =
      .ok (.value (.slice (some ⟨w.heap.size, 0, none⟩) 1 1)) (w.alloc (.cells (ev x).cells 87)) := by
  cases hvx : ev x <;> simp [isAggN, hvx] at hx
  have := run_buildSlice_one (P := Try.prog) Try.underlying108 aggN.size (z := nodeZ) (fun w => by kernel_rfl) (by decide) (by decide) _ hx w
  simp [execOp, hvx, this, Value.cells]
end Go.Proofs.Ytoigddekipjkcaa
