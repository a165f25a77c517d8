/- Rows of hashes; hashes compared; maps keyed by hashes; a map's entry. -/
import Derived.Stop.BytesEq
import Derived.WideKeyEntry
import Derived.Test.YtoigddekipjkcaaNums
import Derived.Test.YtoigddekipjkcaaFull
namespace Go.Proofs.Ytoigddekipjkcaa
set_option linter.all false
open Go Go.RowKit Go.Proofs Go.Maps
open Go.ChangeMaps (setBlock)

def rowH (L : List HB) : List Value := L.flatMap fun h => (encH h).toList
theorem length_encH (h : HB) : (encH h).toList.length = 32 := by simp [size_encH]
theorem length_rowH (L : List HB) : (rowH L).length = L.length * 32 := by
  induction L with
  | nil => rfl
  | cons x r ih => simp only [rowH, List.flatMap_cons, List.length_append, length_encH, List.length_cons] at ih ⊢; omega
theorem rowH_append (a b : List HB) : rowH (a ++ b) = rowH a ++ rowH b := by simp [rowH]
theorem rowH_one (h : HB) : rowH [h] = (encH h).toList := by simp [rowH]
theorem rowH_take (l : List HB) (i : Nat) : (rowH l).take (i * 32) = rowH (l.take i) := by
  rcases Nat.lt_or_ge i l.length with h | h
  · conv => lhs; rw [← List.take_append_drop i l, rowH_append]
    rw [List.take_append_of_le_length (by rw [length_rowH, List.length_take]; omega), List.take_of_length_le (by rw [length_rowH, List.length_take]; omega)]
  · rw [List.take_of_length_le (by rw [length_rowH]; omega), List.take_of_length_le h]
theorem rowH_drop (l : List HB) (i : Nat) : (rowH l).drop (i * 32) = rowH (l.drop i) := by
  rcases Nat.lt_or_ge i l.length with h | h
  · conv => lhs; rw [← List.take_append_drop i l, rowH_append]
    rw [List.drop_append_of_le_length (by rw [length_rowH, List.length_take]; omega), List.drop_of_length_le (by rw [length_rowH, List.length_take]; omega), List.nil_append]
  · rw [List.drop_of_length_le (by rw [length_rowH]; omega), List.drop_of_length_le h]; rfl
theorem rowH_at (l : List HB) (i : Nat) (x : HB) (h : l[i]? = some x) : ((rowH l).drop (i * 32)).take 32 = (encH x).toList := by
  have hi := (List.getElem?_eq_some_iff.1 h).1
  have hx : l[i] = x := (List.getElem?_eq_some_iff.1 h).2
  rw [rowH_drop, List.drop_eq_getElem_cons hi, hx]
  simp only [rowH, List.flatMap_cons]
  rw [List.take_append_of_le_length (by rw [length_encH]; omega), List.take_of_length_le (by rw [length_encH]; omega)]
theorem one_rowH (L : List HB) : ∀ v ∈ rowH L, v.oneCell' = true := by
  intro v hv
  obtain ⟨h, _, hv⟩ := List.mem_flatMap.1 hv
  have := one_encH h; unfold oneCells at this; rw [List.all_eq_true] at this; exact this v hv
/-- A slice of hashes that is a row of its own. -/
def HOwn (w : World) (base : Nat) (v : Value) (L : List HB) : Prop := w.ownsRow base 30 32 v L.length (rowH L)
theorem HOwn.same {w w' : World} {base : Nat} {v : Value} {L : List HB} (h : HOwn w base v L) (hb : ∀ j, v.ownBlock = some j → w'.heap[j]? = w.heap[j]?) : HOwn w' base v L := ownsRow_same h hb
theorem ownsRow_base {w : World} {base b' : Nat} {e : TypeId} {size : Nat} {v : Value} {n : Nat} {xs : List Value} (h : w.ownsRow base e size v n xs) (hb : b' ≤ base) : w.ownsRow b' e size v n xs := by
  obtain ⟨h1, h2 | ⟨g, cap, cur, e1, h3, h4⟩⟩ := h
  · exact ⟨h1, .inl h2⟩
  · exact ⟨h1, .inr ⟨g, cap, cur, e1, Nat.le_trans hb h3, h4⟩⟩
theorem ownsRow_lt {w : World} {base : Nat} {e : TypeId} {size : Nat} {v : Value} {n : Nat} {xs : List Value} (h : w.ownsRow base e size v n xs) {j : Nat} (hj : v.ownBlock = some j) : j < w.heap.size ∧ base ≤ j := by
  obtain ⟨_, ⟨rfl, _⟩ | ⟨g, cap, cur, rfl, h3, h4, _⟩⟩ := h
  · cases hj
  · simp [Value.ownBlock] at hj; subst hj; exact ⟨hb_lt h4, h3⟩
theorem HOwn.row {w : World} {base : Nat} {v : Value} {L : List HB} (h : HOwn w base v L) : HashRow w v L := by
  obtain ⟨ad, cap, rfl⟩ := ownsRow_shape h
  refine ⟨ad, cap, rfl, fun i x hi => ?_⟩
  have hl := (List.getElem?_eq_some_iff.1 hi).1
  obtain ⟨h1, ⟨_, h2⟩ | ⟨g, cap, cur, e, h3, h4, h5, h6, h7, h8⟩⟩ := h
  · omega
  · refine ⟨g, 0, by simp at e; exact e.1, ?_⟩
    have hsz : L.length * 32 ≤ cur.size := by rw [h7]; exact Nat.mul_le_mul_right _ h5
    rw [Nat.zero_add, rowAt_of h4 (by omega)]
    congr 1
    apply Array.ext'
    rw [Array.toList_extract, ← rowH_at L i x hi, ← h8, List.drop_take, List.take_take]
    rw [List.extract_eq_drop_take, Nat.add_sub_cancel_left]
    congr 1; omega
/-- The slice's head. -/
theorem HOwn.take {w : World} {base g cap : Nat} {L : List HB} (h : HOwn w base (.slice (some ⟨g, 0, none⟩) L.length cap) L) (n : Nat) (hn : n ≤ L.length) : HOwn w base (.slice (some ⟨g, 0, none⟩) n cap) (L.take n) := by
  obtain ⟨h1, ⟨e, _⟩ | ⟨g', cap', cur, e, h3, h4, h5, h6, h7, h8⟩⟩ := h
  · cases e
  · simp at e
    obtain ⟨rfl, rfl⟩ := e
    have hl : (L.take n).length = n := by rw [List.length_take]; omega
    refine ⟨length_rowH _, .inr ⟨g, cap, cur, by rw [hl], h3, h4, by omega, h6, h7, ?_⟩⟩
    rw [hl, ← rowH_take, ← h8, List.take_take, Nat.min_eq_left (Nat.mul_le_mul_right _ hn)]
theorem infoH : (Try.prog.info? 30).map (fun i => (i.zero, i.size, i.bytes)) = some (some (.agg (encH zH)), 32, 32) := by kernel_rfl
@[go_sem ↓] theorem buildSlice_H (ev : Operand → Value) (x : Operand) (d : Option Tmp) (ty : TypeId) (pos : String) (after : Array Edge) (g : Option (Nat × Bool)) (w : World)
    (hx : isAggN 32 (ev x) = true) :
    (execOp ev { dst := d, op := .buildSlice 26 1 #[(0, x)], type := ty, pos := pos, after := after, guard := g }).run Try.prog w =
      .ok (.value (.slice (some ⟨w.heap.size, 0, none⟩) 1 1)) (w.alloc (.cells (ev x).cells 30)) := by
  cases hvx : ev x <;> simp [isAggN, hvx] at hx
  have := run_buildSlice_one (P := Try.prog) Try.underlying26 aggH.size (z := encH zH) (fun w => by kernel_rfl) (by decide) (by decide) _ hx w
  simp [execOp, hvx, this, Value.cells]
/-! ### hashes compared -/
theorem encH_cells (h : HB) : encH h = (h.1.map Extern.Stop.cell).toArray := rfl
theorem beq_HB (a b : HB) : (a.1 == b.1) = decide (a = b) := by
  rw [Bool.eq_iff_iff]; simp [Subtype.ext_iff]
@[go_sem ↓] theorem eql_H (a b : HB) (w : World) : (binOp .eql 30 (.agg (encH a)) (.agg (encH b))).run Try.prog w = .ok (.bool (decide (a = b))) w := by
  rw [encH_cells, encH_cells, run_eql_bytes w _ 5 32 Try.underlying30 Try.underlying5 (fun w => by kernel_rfl) a.1 b.1 a.2 b.2, beq_HB]
@[go_sem ↓] theorem neq_H (a b : HB) (w : World) : (binOp .neq 30 (.agg (encH a)) (.agg (encH b))).run Try.prog w = .ok (.bool (!decide (a = b))) w := by
  rw [run_neq_struct, encH_cells, encH_cells, run_equalIn_bytes w 9998 _ 5 32 Try.underlying30 Try.underlying5 (fun w => by kernel_rfl) a.1 b.1 a.2 b.2, beq_HB]
  rfl
theorem guard_H : Try.prog.eqGuardType Try.prog.depth 30 = false := by kernel_rfl
/-! ### maps keyed by hashes -/
def ekH (h : HB) : Value := .agg (encH h)
theorem rowHash : (30 : TypeId) < Try.prog.types.size := of_decide_eq_true (by kernel_rfl)
theorem hashLaw : WideMaps.KeyLaw Try.prog 30 := deep_law_laid laidOut (m := 2) (by omega) rowHash (by kernel_rfl) (by rw [Try.underlying30])
theorem keyTypeHash : Try.prog.keyType 30 = true := by kernel_rfl
theorem cellsHash : Try.prog.cellsOf 30 = 32 := by kernel_rfl
theorem cellsU8 : Try.prog.cellsOf 5 = 1 := by kernel_rfl
theorem wf_u8 (b : UInt8) : (Lit.int .u8 (b.toNat : Int)).wf = true := by
  have := b.toNat_lt
  have h1 : IntKind.u8.min = 0 := by decide
  have h2 : IntKind.u8.max = 255 := by decide
  simp [Lit.wf, h1, h2]
  omega
theorem keyOfHash (h : HB) : ∃ l, keyOf Try.prog 30 (ekH h) = some l := by
  obtain ⟨n, hn⟩ := typesSize
  refine ⟨_, keyOf_agg (by rw [Try.underlying30]) keyTypeHash (by rw [cellsHash, size_encH]) (l := (h.1.map fun b => (b.toNat : Int)).map (Lit.int .u8)) ?_⟩
  rw [hn]
  have := keyLits_array (P := Try.prog) (d := n + 1) (t := 30) (e := 5) (n := 32) (q := .u8) (ns := h.1.map fun b => (b.toNat : Int)) Try.underlying30 (by simp [h.2]) cellsHash cellsU8 Try.underlying5 (fun x hx => by
    obtain ⟨b, _, rfl⟩ := List.mem_map.1 hx
    exact wf_u8 b)
  rw [List.map_map] at this
  exact this
theorem keyH : KeyEnc Try.prog 30 ekH where
  law := Keyed.of_law hashLaw
  key h := keyOfHash h
  inj a b h := by simp only [ekH, Value.agg.injEq] at h; exact encH_inj h
/-! ### an entry met, and stored behind -/
section
variable {K V : Type} [DecidableEq K] {P : Program} {kt et T : TypeId} {ek : K → Value} {ev : V → Value}
theorem MapIs.entry (E : KeyEnc P kt ek) (ht : P.underlying T = some (.map kt et)) {z : Value} (hz : ∀ w, (zeroValue et).run P w = .ok z w)
    {w : World} {b : Nat} {l : List (K × V)} (h : MapIs ek ev w b l) (k : K) :
    ∃ st o1, (∀ w1, w1.heap[b]? = w.heap[b]? → (Instr.mapEntry T (.map (some b)) (ek k)).run P w1 = .ok (.tuple #[((alGet l k).map ev).getD z, .int .i64 (st : Nat)]) (setBlock w1 b o1)) ∧
      ∀ (v : V), ∃ o2, ∀ w2, w2.heap[b]? = some o1 → (Instr.entryStore T (.map (some b)) (.int .i64 (st : Nat)) (ev v)).run P w2 = .ok () (setBlock w2 b o2) ∧ MapIs ek ev (setBlock w2 b o2) b (alPut l k v) := by
  obtain ⟨es, ck, h1, h2, h3, h4, h5⟩ := h
  obtain ⟨lx, hlx⟩ := E.key k
  have hgo : ∀ {w1 : World} {es ck}, w1.heap[b]? = some (.map es ck) → (getObj b).run P w1 = .ok (.map es ck) w1 := fun h => by simp [getObj, Sem.run, h]
  have hso : ∀ {w1 : World} {es : Array MapEntry} {ck : Nat} (o : Obj), w1.heap[b]? = some (.map es ck) → (setObj b o).run P w1 = .ok () (setBlock w1 b o) := fun o h => by simp [setObj, Sem.run, h, ChangeMaps.setBlock]
  rcases MapIs.find E (w := w) h2 h5 k with ⟨hf, hne⟩ | ⟨j, v0, hf, hj, hg⟩
  · have hk : k ∉ l.map (·.1) := fun hm => by
      obtain ⟨x, hx, e⟩ := List.mem_map.1 hm
      exact hne x hx e
    refine ⟨ck, .map (es.push { key := ek k, val := z, born := ck }) (ck + 1), fun w1 hw1 => ?_, fun v => ⟨.map (es.push { key := ek k, val := ev v, born := ck }) (ck + 1), fun w2 hw2 => ⟨?_, es.push { key := ek k, val := ev v, born := ck }, ck + 1, hb_setBlock_same hw2 _, ?_, ?_, ?_, ?_⟩⟩⟩
    · have hf1 : (Instr.findKey kt (ek k) es.toList).run P w1 = .ok none w1 := by
        rcases MapIs.find E (w := w1) h2 h5 k with ⟨hf, _⟩ | ⟨j, v0, _, hj, _⟩
        · exact hf
        · exact absurd rfl (hne _ (List.mem_of_getElem? hj))
      have hw1' := hw1.trans h1
      rw [alGet_none hne]
      unfold Instr.mapEntry
      simp [Sem.run_bind, run_underlying ht, hgo hw1', E.law.check w1 _ hlx, hf1, hz, hso _ hw1', goInt]
    · have hidx : (es.push (⟨ek k, z, ck⟩ : MapEntry)).findIdx? (fun e => ((e.born : Nat) : Int) == ((ck : Nat) : Int)) = some es.size := by
        rw [WideElems.findIdx_arr]
        have := WideElems.findIdx_born (l := (es.push (⟨ek k, z, ck⟩ : MapEntry)).toList) (j := es.size) (e0 := ⟨ek k, z, ck⟩) (by
          simp only [Array.toList_push, List.map_append, List.map_cons, List.map_nil]
          refine List.nodup_append.2 ⟨h3, by simp, fun a ha c hc e1 => ?_⟩
          simp only [List.mem_singleton] at hc
          obtain ⟨x, hx, rfl⟩ := List.mem_map.1 ha
          have := h4 x hx
          omega) (by simp)
        exact this
      have hmod : (es.push (⟨ek k, z, ck⟩ : MapEntry)).modify es.size (fun e => { e with val := ev v }) = es.push ⟨ek k, ev v, ck⟩ := by
        apply Array.ext'
        rw [Array.toList_modify, Array.toList_push, Array.toList_push, ← Array.length_toList, WideElems.modify_last]
      unfold Instr.entryStore
      simp [Sem.run_bind, hgo hw2, asInt, asIntOf, hidx, hmod, hso _ hw2]
    · simp [alPut, hk, h2]
    · simp only [Array.toList_push, List.map_append, List.map_cons, List.map_nil]
      rw [List.nodup_append]
      refine ⟨h3, by simp, ?_⟩
      intro a ha b' hb' e
      simp only [List.mem_singleton] at hb'
      obtain ⟨x, hx, rfl⟩ := List.mem_map.1 ha
      have := h4 x hx
      omega
    · intro e he
      simp only [Array.toList_push, List.mem_append, List.mem_singleton] at he
      rcases he with he | rfl
      · exact Nat.lt_succ_of_lt (h4 e he)
      · exact Nat.lt_succ_self _
    · simp only [alPut, hk, if_false, List.map_append, List.map_cons, List.map_nil]
      rw [List.nodup_append]
      exact ⟨h5, by simp, fun a ha b' hb' e => hk (by simp at hb'; rw [← hb', ← e]; exact ha)⟩
  · have hget := congrArg (fun q => q[j]?) h2
    simp only [List.getElem?_map, Array.getElem?_toList, hj, Option.map_some] at hget
    obtain ⟨e0, he0, hek, hev⟩ : ∃ e0, es[j]? = some e0 ∧ e0.key = ek k ∧ e0.val = ev v0 := by
      cases he : es[j]? with
      | none => simp [he] at hget
      | some e => simp only [he, Option.map_some, Option.some.injEq, Prod.mk.injEq] at hget; exact ⟨e, rfl, hget.1, hget.2⟩
    have he0' : es.toList[j]? = some e0 := by simpa using he0
    have hsame : es.modify j (fun e => { e with key := ek k }) = es := by
      apply Array.ext'
      rw [Array.toList_modify, ChangeMaps.modify_eq_set _ _ _ _ he0']
      have : ({ e0 with key := ek k } : MapEntry) = e0 := by rw [← hek]
      rw [this]
      exact WideElems.set_self _ _ _ he0'
    refine ⟨e0.born, .map es ck, fun w1 hw1 => ?_, fun v => ?_⟩
    · have hf1 : (Instr.findKey kt (ek k) es.toList).run P w1 = .ok (some (j, ev v0)) w1 := by
        rcases MapIs.find E (w := w1) h2 h5 k with ⟨_, hne⟩ | ⟨j', v', hf', hj', hg'⟩
        · exact absurd rfl (hne _ (List.mem_of_getElem? hj))
        · have hjj : j' = j := by
            have a1 := h5
            rw [List.nodup_iff_pairwise_ne, List.pairwise_iff_getElem] at a1
            obtain ⟨b1, c1⟩ := List.getElem?_eq_some_iff.1 hj
            obtain ⟨b2, c2⟩ := List.getElem?_eq_some_iff.1 hj'
            rcases Nat.lt_trichotomy j' j with hlt | h | hlt
            · have := a1 j' j (by simpa using b2) (by simpa using b1) hlt
              simp [c1, c2] at this
            · exact h
            · have := a1 j j' (by simpa using b1) (by simpa using b2) hlt
              simp [c1, c2] at this
          subst hjj
          rw [hj] at hj'
          simp at hj'
          rw [hf', hj']
      have hw1' := hw1.trans h1
      rw [hg]
      unfold Instr.mapEntry
      simp [Sem.run_bind, run_underlying ht, hgo hw1', E.law.check w1 _ hlx, hf1, he0, hek, E.law.stays w1 hlx, hsame, hso _ hw1', goInt]
    · obtain ⟨o, hrun, hM⟩ := MapIs.update E ht (w := w) (b := b) (l := l) ⟨es, ck, h1, h2, h3, h4, h5⟩ k v
      have hmod : es.modify j (fun e => { e with val := ev v }) = es.modify j (fun e' => { e' with key := ek k, val := ev v }) := by
        apply Array.ext'
        rw [Array.toList_modify, Array.toList_modify, ChangeMaps.modify_eq_set _ _ _ _ he0', ChangeMaps.modify_eq_set _ _ _ _ he0', ← hek]
      have ho : setBlock w b o = setBlock w b (.map (es.modify j fun e => { e with key := ek k, val := ev v }) ck) := by
        have e2 : (Instr.mapUpdate T (.map (some b)) (ek k) (ev v)).run P w = .ok () (setBlock w b (.map (es.modify j fun e => { e with key := ek k, val := ev v }) ck)) := by
          unfold Instr.mapUpdate
          simp [Sem.run_bind, run_underlying ht, hgo h1, E.law.check w _ hlx, hf, he0, hek, E.law.stays w hlx, hso _ h1]
        rw [hrun] at e2
        simpa using e2
      rw [ho] at hM
      refine ⟨.map (es.modify j fun e => { e with val := ev v }) ck, fun w2 hw2 => ⟨?_, ?_⟩⟩
      · have hidx : es.findIdx? (fun e => ((e.born : Nat) : Int) == ((e0.born : Nat) : Int)) = some j := by
          rw [WideElems.findIdx_arr]
          exact WideElems.findIdx_born h3 he0'
        unfold Instr.entryStore
        simp [Sem.run_bind, hgo hw2, asInt, asIntOf, hidx, hso _ hw2]
      · rw [hmod]
        exact hM.same ((hb_setBlock_same hw2 _).trans (hb_setBlock_same h1 _).symm)
end
end Go.Proofs.Ytoigddekipjkcaa
