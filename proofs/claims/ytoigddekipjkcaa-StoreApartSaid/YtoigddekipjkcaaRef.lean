/- massifref5.Store, told of the list of its nodes. -/
import Derived.Test.YtoigddekipjkcaaUnpin
import Derived.Test.YtoigddekipjkcaaCalm
import Derived.Test.YtoigddekipjkcaaSweepsL
namespace Go.Proofs.Ytoigddekipjkcaa
set_option linter.all false
open Go Go.RowKit Go.Proofs Go.Maps

/-- A node's cells. -/
def encR (x : NL) : List Value := (encH (x.1.getD zH)).toList ++ [.bool x.1.isSome, .int .i64 (x.2 : Int)]
def rowR (L : List NL) : List Value := L.flatMap encR
theorem length_encR (x : NL) : (encR x).length = 34 := by simp [encR, size_encH]
theorem length_rowR (L : List NL) : (rowR L).length = L.length * 34 := by
  induction L with
  | nil => rfl
  | cons x r ih => simp only [rowR, List.flatMap_cons, List.length_append, length_encR, List.length_cons] at ih ⊢; omega
theorem one_encR (x : NL) : ∀ v ∈ encR x, v.oneCell' = true := by
  intro v hv
  unfold encR at hv
  rcases List.mem_append.1 hv with h | h
  · have := one_encH (x.1.getD zH); unfold oneCells at this; rw [List.all_eq_true] at this; exact this v h
  · simp at h; rcases h with rfl | rfl <;> rfl
theorem rowR_append (a b : List NL) : rowR (a ++ b) = rowR a ++ rowR b := by simp [rowR]
theorem rowR_take (l : List NL) (i : Nat) : (rowR l).take (i * 34) = rowR (l.take i) := by
  rcases Nat.lt_or_ge i l.length with h | h
  · conv => lhs; rw [← List.take_append_drop i l, rowR_append]
    rw [List.take_append_of_le_length (by rw [length_rowR, List.length_take]; omega), List.take_of_length_le (by rw [length_rowR, List.length_take]; omega)]
  · rw [List.take_of_length_le (by rw [length_rowR]; omega), List.take_of_length_le h]
theorem rowR_drop (l : List NL) (i : Nat) : (rowR l).drop (i * 34) = rowR (l.drop i) := by
  rcases Nat.lt_or_ge i l.length with h | h
  · conv => lhs; rw [← List.take_append_drop i l, rowR_append]
    rw [List.drop_append_of_le_length (by rw [length_rowR, List.length_take]; omega), List.drop_of_length_le (by rw [length_rowR, List.length_take]; omega), List.nil_append]
  · rw [List.drop_of_length_le (by rw [length_rowR]; omega), List.drop_of_length_le h]; rfl
theorem rowR_set (l : List NL) (i : Nat) (x : NL) (h : i < l.length) : rowR (l.set i x) = (rowR l).take (i * 34) ++ encR x ++ (rowR l).drop (i * 34 + 34) := by
  rw [List.set_eq_take_append_cons_drop, if_pos h, rowR_append, rowR_take]
  have e : (rowR l).drop (i * 34 + 34) = rowR (l.drop (i + 1)) := by rw [← rowR_drop]; congr 1; omega
  rw [e]
  simp [rowR]
theorem rowR_at (l : List NL) (i : Nat) (x : NL) (h : l[i]? = some x) : rowR l = (rowR l).take (i * 34) ++ encR x ++ (rowR l).drop (i * 34 + 34) := by
  have hl := (List.getElem?_eq_some_iff.1 h).1
  have e : l.set i x = l := by
    apply List.ext_getElem?; intro q
    by_cases hq : q = i
    · subst hq; rw [List.getElem?_set_self hl, h]
    · rw [List.getElem?_set_ne (fun e => hq e.symm)]
  conv => lhs; rw [← e, rowR_set l i x hl]
theorem rowR_get (l : List NL) (i : Nat) (x : NL) (h : l[i]? = some x) (j : Nat) (hj : j < 34) : (rowR l)[i * 34 + j]? = (encR x)[j]? := by
  have hl := (List.getElem?_eq_some_iff.1 h).1
  have e1 : ((rowR l).take (i * 34)).length = i * 34 := by rw [List.length_take, length_rowR]; omega
  rw [rowR_at l i x h, List.getElem?_append_left (by rw [List.length_append, e1, length_encR]; omega), List.getElem?_append_right (by omega), e1]
  congr 1; omega
theorem rowR_setPin (l : List NL) (i : Nat) (x : Option HB) (k k' : Nat) (h : l[i]? = some (x, k)) : rowR (l.set i (x, k')) = (rowR l).set (i * 34 + 33) (.int .i64 (k' : Int)) := by
  have hl := (List.getElem?_eq_some_iff.1 h).1
  have e1 : ((rowR l).take (i * 34)).length = i * 34 := by rw [List.length_take, length_rowR]; omega
  rw [rowR_set l i (x, k') hl]
  conv => rhs; rw [rowR_at l i (x, k) h]
  rw [List.append_assoc, List.append_assoc, List.set_append_right _ _ (by omega), e1, Nat.add_sub_cancel_left, List.set_append_left _ _ (by rw [length_encR]; omega)]
  congr 2
  unfold encR
  rw [List.set_append_right _ _ (by simp [size_encH])]
  simp [size_encH]
theorem splice_rowR {cur : Array Value} {l : List NL} {N i : Nat} (x : NL) (hr : cur.toList.take (N * 34) = rowR l) (hl : l.length = N) (hi : i < N) (hN : N * 34 ≤ cur.size) :
    (splice cur (i * 34) (encR x)).size = cur.size ∧ (splice cur (i * 34) (encR x)).toList.take (N * 34) = rowR (l.set i x) := by
  have h1 : cur.toList.length = cur.size := by simp
  have h34 : i * 34 + 34 ≤ N * 34 := by omega
  constructor
  · simp only [splice, List.size_toArray, List.length_append, List.length_take, List.length_drop, length_encR]; omega
  · have e0 : (splice cur (i * 34) (encR x)).toList = cur.toList.take (i * 34) ++ encR x ++ cur.toList.drop (i * 34 + 34) := by simp [splice, length_encR]
    rw [e0, rowR_set l i x (by omega), ← hr]
    rw [List.take_append, List.take_of_length_le (by simp [length_encR]; omega)]
    congr 1
    · congr 1
      rw [List.take_take, Nat.min_eq_left (by omega)]
    · rw [List.drop_take]
      congr 1
      simp [length_encR]; omega
/-! what the types say -/
theorem aggR : AggT Try.prog 114 34 := ⟨fun w => by kernel_rfl, fun w => by kernel_rfl⟩
@[go_sem ↓] theorem store_R (ev : Operand → Value) (d : Option Tmp) (x y : Operand) (ty : TypeId) (pos : String) (after : Array Edge) (g : Option (Nat × Bool)) (w : World) :
    (execOp ev { dst := d, op := .store 114 x y, type := ty, pos := pos, after := after, guard := g }).run Try.prog w = storeAgg Try.prog 114 34 (ev x) (ev y) w := run_store_agg aggR ev d x y ty pos after g w
def nodeR (c : Array Value) (b : Bool) (k : Nat) : Array Value := (c.push (.bool b)).push (.int .i64 (k : Int))
theorem nodeR_enc (x : NL) : nodeR (encH (x.1.getD zH)) x.1.isSome x.2 = (encR x).toArray := by
  apply Array.ext'; simp [nodeR, encR]
@[go_sem] theorem size_nodeR (h : HB) (b : Bool) (k : Nat) : (nodeR (encH h) b k).size = 34 := by simp [nodeR, size_encH]
@[go_sem] theorem one_nodeR (h : HB) (b : Bool) (k : Nat) : oneCells (nodeR (encH h) b k) = true := by
  have := one_encH h
  unfold oneCells at this ⊢
  simp only [nodeR, Array.toList_push, List.all_append, this]
  rfl
@[go_sem ↓] theorem build_R0 (ev : Operand → Value) (d : Option Tmp) (ty : TypeId) (pos : String) (after : Array Edge) (g : Option (Nat × Bool)) (w : World) :
    (execOp ev { dst := d, op := .build 114 #[], type := ty, pos := pos, after := after, guard := g }).run Try.prog w = .ok (.value (.agg (nodeR (encH zH) false 0))) w := by
  have h : (Instr.build 114 #[]).run Try.prog w = .ok (.agg (nodeR (encH zH) false 0)) w := by kernel_rfl
  simp [execOp, h]
theorem fill_twoR (place : Nat → Option (Nat × Nat)) (c cells : Array Value) (b : Bool) (n k : Nat) (h0 : place 0 = some (0, n)) (h1 : place 1 = some (n, 1)) (hc : c.size = n) (hz : cells.size = n + 2) (hk : cells[n + 1]? = some (.int .i64 (k : Int))) :
    Instr.fill place cells [(0, .agg c), (1, .bool b)] = some (nodeR c b k) := by
  have e1 := fold_part c cells 0 (by omega)
  have z1 : (splice cells 0 c.toList).size = n + 2 := by simp [splice, hc, hz]
  have e2 := fold_part #[.bool b] (splice cells 0 c.toList) n (by rw [z1]; simp)
  have e3 : splice (splice cells 0 c.toList) n (#[Value.bool b] : Array Value).toList = nodeR c b k := by
    apply Array.ext'
    have t1 : c.toList.length = n := by simpa using hc
    have t3 : (splice cells 0 c.toList).toList = c.toList ++ cells.toList.drop n := by simp [splice, hc]
    have t4 : (splice (splice cells 0 c.toList) n (#[Value.bool b] : Array Value).toList).toList =
        (splice cells 0 c.toList).toList.take n ++ [Value.bool b] ++ (splice cells 0 c.toList).toList.drop (n + 1) := rfl
    have t5 : cells.toList.drop (n + 1) = [.int .i64 (k : Int)] := by
      apply List.ext_getElem?
      intro i
      rw [List.getElem?_drop]
      cases i with
      | zero => simpa using hk
      | succ i => rw [List.getElem?_eq_none (by simp [hz]; omega)]; rfl
    rw [t4, t3, List.take_append_of_le_length (by omega), List.take_of_length_le (by omega), List.drop_append, List.drop_of_length_le (by omega), t1, List.nil_append]
    rw [show n + 1 - n = 1 by omega, List.drop_drop, t5]
    simp [nodeR]
  unfold Instr.fill
  simp only [h0, Value.cells, hc, ne_eq, not_true_eq_false, Nat.zero_add, hz, gt_iff_lt, decide_false, Bool.false_or]
  rw [if_neg (by simp)]
  have e1' : c.zipIdx.foldl (fun cs (x : Value × Nat) => cs.setIfInBounds (0 + x.2) x.1) cells = splice cells 0 c.toList := e1
  simp only [Nat.zero_add] at e1'
  unfold Instr.fill
  simp only [h1]
  rw [e1', if_neg (by simp [z1, Value.cells])]
  unfold Instr.fill
  rw [← e3]
  exact congrArg some e2
theorem run_build_R (c : Array Value) (b : Bool) (h : c.size = 32) (w : World) : (Instr.build 114 #[(0, .agg c), (1, .bool b)]).run Try.prog w = .ok (.agg (nodeR c b 0)) w := by
  have hz : (zeroValue 114).run Try.prog w = .ok (.agg (nodeR (encH zH) false 0)) w := by kernel_rfl
  have s1 : ∀ w, (sizeOf 30).run Try.prog w = .ok 32 w := fun w => by kernel_rfl
  have s2 : ∀ w, (sizeOf 4).run Try.prog w = .ok 1 w := fun w => by kernel_rfl
  have s3 : ∀ w, (sizeOf 3).run Try.prog w = .ok 1 w := fun w => by kernel_rfl
  have hf := fill_twoR (fun i => (#[(0, 32), (32, 1), (33, 1)] : Array (Nat × Nat))[i]?) c (nodeR (encH zH) false 0) b 32 0 rfl rfl h (size_nodeR _ _ _) (by kernel_rfl)
  unfold Instr.build
  simp only [Sem.run_bind, hz, Result.andThen_ok, run_underlying Try.underlying114]
  simp [s1, s2, s3, Value.cells]
  simp only [List.getElem?_toArray] at hf
  rw [hf]
  simp
@[go_sem ↓] theorem build_R2 (ev : Operand → Value) (x y : Operand) (d : Option Tmp) (ty : TypeId) (pos : String) (after : Array Edge) (g : Option (Nat × Bool)) (w : World)
    (hx : okN2 (ev x) (ev y) = true) :
    (execOp ev { dst := d, op := .build 114 #[(0, x), (1, y)], type := ty, pos := pos, after := after, guard := g }).run Try.prog w = .ok (.value (.agg (nodeR (ev x).cells (boolOf (ev y)) 0))) w := by
  cases hvx : ev x <;> cases hvy : ev y <;> simp [okN2, hvx, hvy] at hx
  simp [execOp, hvx, hvy, run_build_R _ _ hx, boolOf, Value.cells]
@[go_sem ↓] theorem buildSlice_R (ev : Operand → Value) (x : Operand) (d : Option Tmp) (ty : TypeId) (pos : String) (after : Array Edge) (g : Option (Nat × Bool)) (w : World)
    (hx : isAggN 34 (ev x) = true) :
    (execOp ev { dst := d, op := .buildSlice 89 1 #[(0, x)], type := ty, pos := pos, after := after, guard := g }).run Try.prog w =
      .ok (.value (.slice (some ⟨w.heap.size, 0, none⟩) 1 1)) (w.alloc (.cells (ev x).cells 114)) := by
  cases hvx : ev x <;> simp [isAggN, hvx] at hx
  have := run_buildSlice_one (P := Try.prog) Try.underlying89 aggR.size (z := nodeR (encH zH) false 0) (fun w => by kernel_rfl) (by decide) (by decide) _ hx w
  simp [execOp, hvx, this, Value.cells]
theorem infoR : (Try.prog.info? 114).map (fun i => (i.zero, i.size, i.bytes)) = some (some (.agg (nodeR (encH zH) false 0)), 34, 48) := by kernel_rfl

/-! the reference's store as a value -/
def refCells (log : Nat) (v : Value) : Obj := .cells #[.int .i64 (log : Int), v] 91 (0, 0)
/-- A slice of the reference's nodes: a row of its own, of which there may be more cells only where there is no room. -/
def RRow (w : World) (v : Value) (L : List NL) : Prop :=
  (v = .slice none 0 0 ∧ L.length = 0) ∨
   ∃ g cap cur, v = .slice (some ⟨g, 0, none⟩) L.length cap ∧ w.heap[g]? = some (.cells cur 114 (0, 0)) ∧ L.length ≤ cap ∧ cap ≤ maxLen ∧ cap * 34 ≤ cur.size ∧ (cur.size = cap * 34 ∨ cap = L.length) ∧ cur.toList.take (L.length * 34) = rowR L
theorem RRow.shape {w : World} {v : Value} {L : List NL} (h : RRow w v L) : ∃ ad cap, v = .slice ad L.length cap := by
  rcases h with ⟨rfl, e⟩ | ⟨g, cap, cur, rfl, _⟩
  · exact ⟨none, 0, by rw [e]⟩
  · exact ⟨_, _, rfl⟩
theorem RRow.same {w w' : World} {v : Value} {L : List NL} (h : RRow w v L) (hb : ∀ j, v.ownBlock = some j → w'.heap[j]? = w.heap[j]?) : RRow w' v L := by
  rcases h with ⟨rfl, e⟩ | ⟨g, cap, cur, rfl, h1, h2⟩
  · exact .inl ⟨rfl, e⟩
  · exact .inr ⟨g, cap, cur, rfl, (hb g rfl).trans h1, h2⟩
theorem RRow.of_own {w : World} {base : Nat} {v : Value} {L : List NL} (h : w.ownsRow base 114 34 v L.length (rowR L)) : RRow w v L := by
  rcases h.2 with ⟨rfl, e⟩ | ⟨g, cap, cur, rfl, _, h1, h2, h3, h4, h5⟩
  · exact .inl ⟨rfl, e⟩
  · exact .inr ⟨g, cap, cur, rfl, h1, h2, h3, by omega, .inl h4, h5⟩
def RefAt (w : World) (rb log : Nat) (L : List NL) (G : Nat → Prop) : Prop :=
  ∃ v, w.heap[rb]? = some (refCells log v) ∧ RRow w v L ∧ G rb ∧ (∀ j, v.ownBlock = some j → G j) ∧ (∀ j, G j → j < w.heap.size)
section
variable {w : World} {rb log : Nat} {L : List NL} {G : Nat → Prop}
theorem RefAt.kept {w' : World} (h : RefAt w rb log L G) (hs : w.heap.size ≤ w'.heap.size) (hb : ∀ j, G j → w'.heap[j]? = w.heap[j]?) : RefAt w' rb log L G := by
  obtain ⟨v, h1, h2, h3, h4, h5⟩ := h
  exact ⟨v, (hb rb h3).trans h1, h2.same (fun j hj => hb j (h4 j hj)), h3, h4, fun j hj => Nat.lt_of_lt_of_le (h5 j hj) hs⟩
theorem RefAt.below {w' : World} (h : RefAt w rb log L G) (hb : Below w.heap.size w w') : RefAt w' rb log L G :=
  h.kept hb.size (fun j hj => hb.block j (by obtain ⟨_, _, _, _, _, h5⟩ := h; exact h5 j hj))
theorem RefAt.lt (h : RefAt w rb log L G) : ∀ j, G j → j < w.heap.size := by obtain ⟨_, _, _, _, _, h5⟩ := h; exact h5
theorem RefAt.fr {w' : World} {S : Nat → Prop} (h : RefAt w rb log L G) (hf : Fr S w w') (hd : ∀ j, G j → ¬ S j) : RefAt w' rb log L G :=
  h.kept hf.size (fun j hj => hf.block j (h.lt j hj) (hd j hj))
/-- Where node p lies. -/
structure RNode (w : World) (rb log : Nat) (L : List NL) (G : Nat → Prop) (p : Nat) (x : NL) (g cap : Nat) (cur : Array Value) : Prop where
  own : w.heap[rb]? = some (refCells log (.slice (some ⟨g, 0, none⟩) L.length cap))
  row : w.heap[g]? = some (.cells cur 114 (0, 0))
  size : cap * 34 ≤ cur.size
  tight : cur.size = cap * 34 ∨ cap = L.length
  le : L.length ≤ cap
  max : cap ≤ maxLen
  cells : cur.toList.take (L.length * 34) = rowR L
  hash : rowAt w ⟨g, p * 34, none⟩ 32 = some (encH (x.1.getD zH))
  live : w.cell? ⟨g, p * 34 + 32, none⟩ = some (.bool x.1.isSome)
  pins : w.cell? ⟨g, p * 34 + 33, none⟩ = some (.int .i64 (x.2 : Int))
  ne : rb ≠ g
  foot : G g
theorem RefAt.node (h : RefAt w rb log L G) {p : Nat} {x : NL} (hx : L[p]? = some x) : ∃ g cap cur, RNode w rb log L G p x g cap cur := by
  obtain ⟨v, h1, h2, h3, h4, h5⟩ := h
  have hp := (List.getElem?_eq_some_iff.1 hx).1
  obtain ⟨rfl, e⟩ | ⟨g, cap, cur, rfl, a2, a3, a4, a5, a7, a6⟩ := h2
  · omega
  · have hsz : L.length * 34 ≤ cur.size := Nat.le_trans (Nat.mul_le_mul_right _ a3) a5
    have hc : ∀ j, j < 34 → cur[p * 34 + j]? = (encR x)[j]? := fun j hj => by
      rw [← rowR_get L p x hx j hj, ← a6, List.getElem?_take, if_pos (by omega), Array.getElem?_toList]
    refine ⟨g, cap, cur, h1, a2, a5, a7, a3, a4, a6, ?_, ?_, ?_, ne_type h1 a2 (by decide), h4 g rfl⟩
    · rw [rowAt_of a2 (by omega)]
      congr 1
      apply Array.ext'
      apply List.ext_getElem?
      intro j
      by_cases hj : j < 32
      · have e1 : (encR x)[j]? = (encH (x.1.getD zH))[j]? := by unfold encR; rw [List.getElem?_append_left (by simp [size_encH]; exact hj), Array.getElem?_toList]
        rw [Array.getElem?_toList, Array.getElem?_toList, ← e1, ← hc j (by omega), Array.getElem?_extract]
        rw [if_pos (by omega)]
      · rw [List.getElem?_eq_none (by simp; omega), List.getElem?_eq_none (by simp [size_encH]; omega)]
    · rw [cell_of a2, hc 32 (by omega)]; unfold encR; rw [List.getElem?_append_right (by simp [size_encH])]; simp [size_encH]
    · rw [cell_of a2, hc 33 (by omega)]; unfold encR; rw [List.getElem?_append_right (by simp [size_encH])]; simp [size_encH]
theorem RNode.free {p g cap : Nat} {x : NL} {cur : Array Value} (h : RNode w rb log L G p x g cap cur) (hp : p < L.length) : rowFree w ⟨g, p * 34, none⟩ 34 = true :=
  rowFree_of h.row (by have := h.size; have := h.le; have : L.length * 34 ≤ cap * 34 := Nat.mul_le_mul_right _ h.le; omega)
theorem RefAt.put (h : RefAt w rb log L G) {p g cap : Nat} {x : NL} {cur : Array Value} (N : RNode w rb log L G p x g cap cur) (hp : p < L.length) (y : NL) : RefAt (putRow w ⟨g, p * 34, none⟩ (encR y)) rb log (L.set p y) G := by
  obtain ⟨_, _, _, h3, _, h5⟩ := h
  have hsz : L.length * 34 ≤ cur.size := Nat.le_trans (Nat.mul_le_mul_right _ N.le) N.size
  obtain ⟨s1, s2⟩ := splice_rowR y N.cells rfl hp hsz
  refine ⟨.slice (some ⟨g, 0, none⟩) L.length cap, (hb_putRow_other _ _ N.ne).trans N.own, ?_, h3, fun j hj => ?_, fun j hj => by rw [size_putRow]; exact h5 j hj⟩
  · exact .inr ⟨g, cap, _, by rw [List.length_set], hb_putRow_same N.row _, by rw [List.length_set]; exact N.le, N.max, by rw [s1]; exact N.size, by rw [s1, List.length_set]; exact N.tight, by rw [List.length_set]; exact s2⟩
  · simp [Value.ownBlock] at hj; subst hj; exact N.foot
theorem RefAt.setPin (h : RefAt w rb log L G) {p g cap k : Nat} {x : Option HB} {cur : Array Value} (N : RNode w rb log L G p (x, k) g cap cur) (hx : L[p]? = some (x, k)) (k' : Nat) : RefAt (w.setCell ⟨g, p * 34 + 33, none⟩ (.int .i64 (k' : Int))) rb log (L.set p (x, k')) G := by
  obtain ⟨_, _, _, h3, _, h5⟩ := h
  have hp := (List.getElem?_eq_some_iff.1 hx).1
  have hsz : L.length * 34 ≤ cur.size := Nat.le_trans (Nat.mul_le_mul_right _ N.le) N.size
  refine ⟨.slice (some ⟨g, 0, none⟩) L.length cap, (Below.heap_setCell _ _ _ rb N.ne).trans N.own, ?_, h3, fun j hj => ?_, fun j hj => by simp; exact h5 j hj⟩
  · refine .inr ⟨g, cap, _, by rw [List.length_set], hb_setCell_same N.row _, by rw [List.length_set]; exact N.le, N.max, by simp [N.size], by simpa using N.tight, ?_⟩
    rw [List.length_set]
    rw [rowR_setPin L p x k k' hx, ← N.cells]
    simp [List.take_set]
  · simp [Value.ownBlock] at hj; subst hj; exact N.foot
end
end Go.Proofs.Ytoigddekipjkcaa
