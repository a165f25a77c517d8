/- Base laws: frames of the heap; maps as association lists. No Go function is named here. -/
import Derived.WalkKit
import Derived.ProofKit
import Derived.WalkLawsBesides
import Derived.WalkSpells
import Derived.Maps.OwnSet
import Derived.DeepKeys4
namespace Go.Proofs.Ytoigddekipjkcaa
set_option linter.all false
open Go Go.RowKit
open Go.ChangeMaps (setBlock)
open Go.Maps (Keyed)

/-- Blocks below the old heap's size and outside S are as they were. -/
structure Fr (S : Nat → Prop) (w w' : World) : Prop where
  os : w'.os = w.os
  tape : w'.tape = w.tape
  output : w'.output = w.output
  size : w.heap.size ≤ w'.heap.size
  block : ∀ k, k < w.heap.size → ¬ S k → w'.heap[k]? = w.heap[k]?

theorem Fr.refl (S : Nat → Prop) (w : World) : Fr S w w := ⟨rfl, rfl, rfl, Nat.le_refl _, fun _ _ _ => rfl⟩
theorem Fr.trans {S T U : Nat → Prop} {a b c : World} (h : Fr S a b) (k : Fr T b c) (hS : ∀ j, S j → U j) (hT : ∀ j, j < a.heap.size → T j → U j) : Fr U a c :=
  ⟨k.os.trans h.os, k.tape.trans h.tape, k.output.trans h.output, Nat.le_trans h.size k.size, fun j hj hn =>
    (k.block j (Nat.lt_of_lt_of_le hj h.size) (fun t => hn (hT j hj t))).trans (h.block j hj (fun s => hn (hS j s)))⟩
theorem Fr.mono {S T : Nat → Prop} {a b : World} (h : Fr S a b) (hS : ∀ j, j < a.heap.size → S j → T j) : Fr T a b :=
  ⟨h.os, h.tape, h.output, h.size, fun j hj hn => h.block j hj (fun s => hn (hS j hj s))⟩
theorem Fr.alloc {S : Nat → Prop} {a w : World} (h : Fr S a w) (o : Obj) : Fr S a (w.alloc o) :=
  ⟨h.os, h.tape, h.output, by rw [World.size_alloc]; have := h.size; omega, fun k hk hn => by
    rw [Below.heap_alloc w o k (Nat.lt_of_lt_of_le hk h.size)]; exact h.block k hk hn⟩
theorem Fr.setCell {S : Nat → Prop} {a w : World} (h : Fr S a w) (p : Addr) (v : Value) (hp : p.block < a.heap.size → S p.block) : Fr S a (w.setCell p v) :=
  ⟨h.os, h.tape, h.output, by rw [World.size_setCell]; exact h.size, fun k hk hn => by
    rw [Below.heap_setCell w p v k (fun e => hn (e ▸ hp (e ▸ hk)))]; exact h.block k hk hn⟩
theorem Fr.drew {S : Nat → Prop} {a w : World} (h : Fr S a w) : Fr S a w.drew := ⟨h.os, h.tape, h.output, h.size, h.block⟩
theorem Fr.drewN {S : Nat → Prop} {a w : World} (h : Fr S a w) (n : Nat) : Fr S a (w.drewN n) := ⟨h.os, h.tape, h.output, h.size, h.block⟩
theorem Fr.setBlock {S : Nat → Prop} {a w : World} (h : Fr S a w) (b : Nat) (o : Obj) (hb : b < a.heap.size → S b) : Fr S a (setBlock w b o) :=
  ⟨h.os, h.tape, h.output, by simp only [ChangeMaps.setBlock, Array.size_setIfInBounds]; exact h.size, fun k hk hn => by
    show (w.heap.setIfInBounds b o)[k]? = _
    rw [Array.getElem?_setIfInBounds_ne (fun e : b = k => hn (e ▸ hb (e ▸ hk)))]; exact h.block k hk hn⟩
theorem Fr.below {S : Nat → Prop} {a b : World} (h : Fr S a b) (hS : ∀ j, ¬ S j) : Below a.heap.size a b :=
  ⟨h.os, h.tape, h.output, h.size, fun k hk => h.block k hk (hS k)⟩
theorem Fr.of_below {S : Nat → Prop} {a b : World} (h : Below a.heap.size a b) : Fr S a b :=
  ⟨h.os, h.tape, h.output, h.size, fun k hk _ => h.block k hk⟩

/-! ### what a block holds, behind each kind of step -/
theorem hb_lt {w : World} {b : Nat} {o : Obj} (h : w.heap[b]? = some o) : b < w.heap.size := by
  by_cases hlt : b < w.heap.size
  · exact hlt
  · simp [Array.getElem?_eq_none (Nat.le_of_not_lt hlt)] at h
theorem hb_alloc {w : World} {b : Nat} {o : Obj} (h : w.heap[b]? = some o) (x : Obj) : (w.alloc x).heap[b]? = some o := by
  rw [Below.heap_alloc w x b (hb_lt h)]; exact h
theorem hb_new (w : World) (x : Obj) : (w.alloc x).heap[w.heap.size]? = some x := by
  show (w.heap.push x)[w.heap.size]? = _
  simp
theorem hb_drew {w : World} {b : Nat} {o : Obj} (h : w.heap[b]? = some o) : w.drew.heap[b]? = some o := h
theorem hb_drewN {w : World} {b : Nat} {o : Obj} (h : w.heap[b]? = some o) (n : Nat) : (w.drewN n).heap[b]? = some o := h
theorem hb_eq {W w : World} {b : Nat} {o : Obj} (e : W = w) (h : w.heap[b]? = some o) : W.heap[b]? = some o := e ▸ h
theorem hb_setCell {w : World} {b : Nat} {o : Obj} (h : w.heap[b]? = some o) (a : Addr) (v : Value) (hn : b ≠ a.block) : (w.setCell a v).heap[b]? = some o := by
  rw [Below.heap_setCell w a v b hn]; exact h
theorem hb_setCell_same {w : World} {b i : Nat} {c : Array Value} {t : TypeId} {f : Nat × Nat} (h : w.heap[b]? = some (.cells c t f)) (v : Value) :
    (w.setCell ⟨b, i, none⟩ v).heap[b]? = some (.cells (c.setIfInBounds i v) t f) := by
  simp [World.setCell, Array.getElem?_modify, h]
theorem hb_setBlock {w : World} {b : Nat} {o : Obj} (h : w.heap[b]? = some o) (d : Nat) (x : Obj) (hn : b ≠ d) : (setBlock w d x).heap[b]? = some o := by
  show (w.heap.setIfInBounds d x)[b]? = _
  rw [Array.getElem?_setIfInBounds_ne (fun e => hn e.symm)]; exact h
theorem hb_setBlock_same {w : World} {b : Nat} {o : Obj} (h : w.heap[b]? = some o) (x : Obj) : (setBlock w b x).heap[b]? = some x := by
  show (w.heap.setIfInBounds b x)[b]? = _
  have := hb_lt h
  simp [this]
theorem cell_of {w : World} {b i : Nat} {c : Array Value} {t : TypeId} {f : Nat × Nat} (h : w.heap[b]? = some (.cells c t f)) : w.cell? ⟨b, i, none⟩ = c[i]? := by
  simp [World.cell?, h]
theorem frozen_of {w : World} {b i : Nat} {c : Array Value} {t : TypeId} (h : w.heap[b]? = some (.cells c t (0, 0))) : w.frozen? ⟨b, i, none⟩ = false := by
  simp [World.frozen?, h]

@[simp] theorem size_drewN (w : World) (n : Nat) : (w.drewN n).heap.size = w.heap.size := rfl
theorem calls_name {P : Program} {f : FuncId} {args : Array Value} {R : Ending → World → Prop} {w : World} (h : ∀ W, Hid (W = w) → Calls P f args W R) : Calls P f args w R := h w rfl
/-- The world gets a name. -/
theorem wp_name {P : Program} {c : Code} {Q : Exit → Act → World → Prop} {a : Act} {w : World} (h : ∀ W, Hid (W = w) → c.wp P Q a W) : c.wp P Q a w := h w rfl
theorem wpList_name {P : Program} {ops : Array Oper} {Q : Exit → Act → World → Prop} {l : List Oper} {a : Act} {w : World} (h : ∀ W, Hid (W = w) → wpList P ops Q l a W) : wpList P ops Q l a w := h w rfl
/-! ### maps as association lists -/
section
variable {K V : Type}
/-- Block b is a map that holds just the pairs of l, in l's order. -/
def MapIs (ek : K → Value) (ev : V → Value) (w : World) (b : Nat) (l : List (K × V)) : Prop :=
  ∃ es ck, w.heap[b]? = some (.map es ck) ∧ es.toList.map (fun e => (e.key, e.val)) = l.map (fun x => (ek x.1, ev x.2)) ∧
    (es.toList.map (·.born)).Nodup ∧ (∀ e ∈ es.toList, e.born < ck) ∧ (l.map (·.1)).Nodup

variable [DecidableEq K]
def alGet (l : List (K × V)) (k : K) : Option V := (l.find? (fun x => decide (x.1 = k))).map (·.2)
def alPut (l : List (K × V)) (k : K) (v : V) : List (K × V) :=
  if k ∈ l.map (·.1) then l.map (fun x => if x.1 = k then (k, v) else x) else l ++ [(k, v)]
def alDel (l : List (K × V)) (k : K) : List (K × V) := l.filter (fun x => decide (x.1 ≠ k))

omit [DecidableEq K] in
theorem MapIs.same {ek : K → Value} {ev : V → Value} {w w' : World} {b : Nat} {l : List (K × V)} (h : MapIs ek ev w b l) (hb : w'.heap[b]? = w.heap[b]?) : MapIs ek ev w' b l := by
  obtain ⟨es, ck, h1, h2⟩ := h
  exact ⟨es, ck, hb.trans h1, h2⟩
omit [DecidableEq K] in
theorem MapIs.alloc {ek : K → Value} {ev : V → Value} {w : World} {b : Nat} {l : List (K × V)} (h : MapIs ek ev w b l) (o : Obj) : MapIs ek ev (w.alloc o) b l := by
  obtain ⟨es, ck, h1, h2⟩ := h
  exact ⟨es, ck, hb_alloc h1 o, h2⟩
omit [DecidableEq K] in
theorem MapIs.drewN {ek : K → Value} {ev : V → Value} {w : World} {b : Nat} {l : List (K × V)} (h : MapIs ek ev w b l) (n : Nat) : MapIs ek ev (w.drewN n) b l := h
omit [DecidableEq K] in
theorem MapIs.eq {ek : K → Value} {ev : V → Value} {W w : World} {b : Nat} {l : List (K × V)} (e : W = w) (h : MapIs ek ev w b l) : MapIs ek ev W b l := e ▸ h
omit [DecidableEq K] in
theorem MapIs.lt {ek : K → Value} {ev : V → Value} {w : World} {b : Nat} {l : List (K × V)} (h : MapIs ek ev w b l) : b < w.heap.size := by
  obtain ⟨es, ck, h1, _⟩ := h
  exact hb_lt h1
omit [DecidableEq K] in
theorem MapIs.made {ek : K → Value} {ev : V → Value} {w : World} {b : Nat} (h : w.heap[b]? = some (.map #[] 0)) : MapIs ek ev w b ([] : List (K × V)) :=
  ⟨#[], 0, h, by simp, by simp, by simp, by simp⟩

structure KeyEnc (P : Program) (kt : TypeId) (ek : K → Value) : Prop where
  law : Keyed P kt
  key : ∀ k, ∃ l, keyOf P kt (ek k) = some l
  inj : ∀ a b, ek a = ek b → a = b

variable {P : Program} {kt et T : TypeId} {ek : K → Value} {ev : V → Value}

theorem alGet_none {l : List (K × V)} {k : K} (h : ∀ x ∈ l, x.1 ≠ k) : alGet l k = none := by
  unfold alGet
  rw [List.find?_eq_none.2 (fun x hx => by simpa using h x hx)]; rfl
theorem alGet_of {l : List (K × V)} {j : Nat} {x : K × V} (hn : (l.map (·.1)).Nodup) (hx : l[j]? = some x) : alGet l x.1 = some x.2 := by
  induction l generalizing j with
  | nil => simp at hx
  | cons y l ih =>
    simp only [List.map_cons, List.nodup_cons] at hn
    cases j with
    | zero =>
      simp only [List.getElem?_cons_zero, Option.some.injEq] at hx
      subst hx
      simp [alGet]
    | succ j =>
      simp only [List.getElem?_cons_succ] at hx
      have hm : x ∈ l := List.mem_of_getElem? hx
      have hne : y.1 ≠ x.1 := fun e => hn.1 (e ▸ List.mem_map_of_mem hm)
      have := ih hn.2 hx
      unfold alGet at this ⊢
      rw [List.find?_cons_of_neg (by simpa using hne)]
      exact this

/-- What the search for a key comes to. -/
theorem MapIs.find (E : KeyEnc P kt ek) {w : World} {l : List (K × V)} {es : Array MapEntry} (h2 : es.toList.map (fun e => (e.key, e.val)) = l.map (fun x => (ek x.1, ev x.2)))
    (h5 : (l.map (·.1)).Nodup) (k : K) :
    ((Instr.findKey kt (ek k) es.toList).run P w = .ok none w ∧ (∀ x ∈ l, x.1 ≠ k)) ∨
    ∃ (j : Nat) (v : V), (Instr.findKey kt (ek k) es.toList).run P w = .ok (some (j, ev v)) w ∧ l[j]? = some (k, v) ∧ alGet l k = some v := by
  obtain ⟨lx, hlx⟩ := E.key k
  have hget : ∀ j : Nat, (es.toList[j]?).map (fun e => (e.key, e.val)) = (l[j]?).map (fun x => (ek x.1, ev x.2)) := fun j => by
    have := congrArg (fun q => q[j]?) h2
    simpa using this
  have hkeys : ∀ e ∈ es.toList, ∃ x ∈ l, e.key = ek x.1 ∧ e.val = ev x.2 := fun e he => by
    obtain ⟨j, hj⟩ := List.getElem?_of_mem he
    have := hget j
    rw [hj] at this
    cases hl : l[j]? with
    | none => simp [hl] at this
    | some x =>
      simp only [hl, Option.map_some, Option.some.injEq, Prod.mk.injEq] at this
      exact ⟨x, List.mem_of_getElem? hl, this.1, this.2⟩
  rcases E.law.find w hlx es.toList (fun e he => by obtain ⟨x, _, hx, _⟩ := hkeys e he; rw [hx]; exact E.key x.1) with ⟨h, hne⟩ | ⟨j, e, h, hj, hk⟩
  · left
    refine ⟨h, fun x hx e => ?_⟩
    obtain ⟨j, hj⟩ := List.getElem?_of_mem hx
    have := hget j
    rw [hj] at this
    cases he : es.toList[j]? with
    | none => simp [he] at this
    | some y =>
      simp only [he, Option.map_some, Option.some.injEq, Prod.mk.injEq] at this
      exact hne y (List.mem_of_getElem? he) (by rw [this.1, e])
  · right
    have := hget j
    rw [hj] at this
    cases hl : l[j]? with
    | none => simp [hl] at this
    | some x =>
      simp only [hl, Option.map_some, Option.some.injEq, Prod.mk.injEq] at this
      obtain ⟨a1, a2⟩ := this
      have hxk : x.1 = k := E.inj _ _ (by rw [← a1, hk])
      refine ⟨j, x.2, by rw [h, a2], ?_, ?_⟩
      · rw [hl]; cases x; simp at hxk; simp [hxk]
      · rw [← hxk]; exact alGet_of h5 hl

theorem MapIs.lookup (E : KeyEnc P kt ek) (ht : P.underlying T = some (.map kt et)) {z : Value} (hz : ∀ w, (zeroValue et).run P w = .ok z w)
    {w : World} {b : Nat} {l : List (K × V)} (h : MapIs ek ev w b l) (k : K) (c : Bool) :
    (Instr.lookup T (.map (some b)) (ek k) c).run P w =
      .ok (if c then .tuple #[((alGet l k).map ev).getD z, .bool (alGet l k).isSome] else ((alGet l k).map ev).getD z) w := by
  obtain ⟨es, ck, h1, h2, h3, h4, h5⟩ := h
  obtain ⟨lx, hlx⟩ := E.key k
  have hgo : (getObj b).run P w = .ok (.map es ck) w := by simp [getObj, Sem.run, h1]
  unfold Instr.lookup
  rcases MapIs.find E (w := w) h2 h5 k with ⟨hf, hne⟩ | ⟨j, v, hf, hj, hg⟩
  · rw [alGet_none hne]
    cases c <;> simp [Sem.run_bind, run_underlying ht, hgo, E.law.check w _ hlx, hf, hz]
  · rw [hg]
    cases c <;> simp [Sem.run_bind, run_underlying ht, hgo, E.law.check w _ hlx, hf]

theorem map_born_modify {es : Array MapEntry} {j : Nat} {k v : Value} : ((es.modify j fun e => { e with key := k, val := v }).toList.map (·.born)) = es.toList.map (·.born) := by
  apply List.ext_getElem?
  intro i
  simp only [List.getElem?_map, Array.getElem?_toList, Array.getElem?_modify]
  split
  · cases es[i]? <;> rfl
  · rfl

theorem MapIs.update (E : KeyEnc P kt ek) (ht : P.underlying T = some (.map kt et)) {w : World} {b : Nat} {l : List (K × V)} (h : MapIs ek ev w b l) (k : K) (v : V) :
    ∃ o, (Instr.mapUpdate T (.map (some b)) (ek k) (ev v)).run P w = .ok () (setBlock w b o) ∧ MapIs ek ev (setBlock w b o) b (alPut l k v) := by
  obtain ⟨es, ck, h1, h2, h3, h4, h5⟩ := h
  obtain ⟨lx, hlx⟩ := E.key k
  have hgo : (getObj b).run P w = .ok (.map es ck) w := by simp [getObj, Sem.run, h1]
  have hso : ∀ o, (setObj b o).run P w = .ok () (setBlock w b o) := fun o => by simp [setObj, Sem.run, h1, ChangeMaps.setBlock]
  unfold Instr.mapUpdate
  rcases MapIs.find E (w := w) h2 h5 k with ⟨hf, hne⟩ | ⟨j, v0, hf, hj, hg⟩
  · refine ⟨.map (es.push { key := ek k, val := ev v, born := ck }) (ck + 1), ?_, es.push { key := ek k, val := ev v, born := ck }, ck + 1, hb_setBlock_same h1 _, ?_, ?_, ?_, ?_⟩
    · simp [Sem.run_bind, run_underlying ht, hgo, E.law.check w _ hlx, hf, hso]
    · have : k ∉ l.map (·.1) := fun hm => by
        obtain ⟨x, hx, e⟩ := List.mem_map.1 hm
        exact hne x hx e
      simp [alPut, this, h2]
    · simp only [Array.toList_push, List.map_append, List.map_cons, List.map_nil]
      rw [List.nodup_append]
      refine ⟨h3, by simp, ?_⟩
      intro a ha b' hb' e
      simp only [List.mem_singleton] at hb'
      obtain ⟨x, hx, rfl⟩ := List.mem_map.1 ha
      have := h4 x hx
      omega
    · intro e he
      simp only [Array.toList_push, List.mem_append, List.mem_singleton] at he
      rcases he with he | rfl
      · exact Nat.lt_succ_of_lt (h4 e he)
      · exact Nat.lt_succ_self _
    · have hk : k ∉ l.map (·.1) := fun hm => by
        obtain ⟨x, hx, e⟩ := List.mem_map.1 hm
        exact hne x hx e
      simp only [alPut, hk, if_false, List.map_append, List.map_cons, List.map_nil]
      rw [List.nodup_append]
      exact ⟨h5, by simp, fun a ha b' hb' e => hk (by simp at hb'; rw [← hb', ← e]; exact ha)⟩
  · have hkm : k ∈ l.map (·.1) := List.mem_map.2 ⟨(k, v0), List.mem_of_getElem? hj, rfl⟩
    have hold : es[j]?.map (·.key) = some (ek k) := by
      have := congrArg (fun q => q[j]?) h2
      simp only [List.getElem?_map, Array.getElem?_toList, hj, Option.map_some] at this
      cases he : es[j]? with
      | none => simp [he] at this
      | some e => simp only [he, Option.map_some, Option.some.injEq, Prod.mk.injEq] at this; simp [this.1]
    refine ⟨.map (es.modify j fun e => { e with key := ek k, val := ev v }) ck, ?_, es.modify j fun e => { e with key := ek k, val := ev v }, ck, hb_setBlock_same h1 _, ?_, ?_, ?_, ?_⟩
    · simp [Sem.run_bind, run_underlying ht, hgo, E.law.check w _ hlx, hf, hold, E.law.stays w hlx, hso]
    · apply List.ext_getElem?
      intro i
      have h2i := congrArg (fun q => q[i]?) h2
      simp only [List.getElem?_map, Array.getElem?_toList] at h2i
      simp only [alPut, hkm, if_true, List.getElem?_map, Array.getElem?_toList, Array.getElem?_modify]
      by_cases hij : j = i
      · subst hij
        rw [if_pos rfl, hj]
        cases he : es[j]? with
        | none => simp [he] at hold
        | some e => simp
      · rw [if_neg hij]
        cases hl : l[i]? with
        | none => rw [hl] at h2i; simpa using h2i
        | some x =>
          have hx : x.1 ≠ k := fun e => by
            have a1 := h5
            rw [List.nodup_iff_pairwise_ne, List.pairwise_iff_getElem] at a1
            have b1 : i < l.length := by
              rcases Nat.lt_or_ge i l.length with h' | h'
              · exact h'
              · simp [List.getElem?_eq_none h'] at hl
            have b2 : j < l.length := by
              rcases Nat.lt_or_ge j l.length with h' | h'
              · exact h'
              · simp [List.getElem?_eq_none h'] at hj
            have c1 : l[i] = x := by rw [List.getElem?_eq_getElem b1] at hl; simpa using hl
            have c2 : l[j] = (k, v0) := by rw [List.getElem?_eq_getElem b2] at hj; simpa using hj
            rcases Nat.lt_or_gt_of_ne hij with hlt | hlt
            · have := a1 j i (by simpa using b2) (by simpa using b1) hlt
              simp [c1, c2, e] at this
            · have := a1 i j (by simpa using b1) (by simpa using b2) hlt
              simp [c1, c2, e] at this
          rw [hl] at h2i
          simpa [hx] using h2i
    · rw [map_born_modify]; exact h3
    · intro e he
      have hb : e.born ∈ (es.modify j fun e => { e with key := ek k, val := ev v }).toList.map (·.born) := List.mem_map_of_mem he
      rw [map_born_modify] at hb
      obtain ⟨y, hy, hyb⟩ := List.mem_map.1 hb
      rw [← hyb]; exact h4 y hy
    · have : (alPut l k v).map (·.1) = l.map (·.1) := by
        simp only [alPut, hkm, if_true, List.map_map]
        apply List.map_congr_left
        intro x _
        by_cases hx : x.1 = k <;> simp [hx]
      rw [this]; exact h5

theorem MapIs.delete (E : KeyEnc P kt ek) (ht : P.underlying T = some (.map kt et)) {w : World} {b : Nat} {l : List (K × V)} (h : MapIs ek ev w b l) (k : K) (ty : TypeId) :
    ∃ o, (Builtin.delete_ #[T, kt] ty #[.map (some b), ek k]).run P w = .ok (.tuple #[]) (setBlock w b o) ∧ MapIs ek ev (setBlock w b o) b (alDel l k) := by
  obtain ⟨es, ck, h1, h2, h3, h4, h5⟩ := h
  obtain ⟨lx, hlx⟩ := E.key k
  have hgo : (getObj b).run P w = .ok (.map es ck) w := by simp [getObj, Sem.run, h1]
  have hso : ∀ o, (setObj b o).run P w = .ok () (setBlock w b o) := fun o => by simp [setObj, Sem.run, h1, ChangeMaps.setBlock]
  unfold Builtin.delete_
  rcases MapIs.find E (w := w) h2 h5 k with ⟨hf, hne⟩ | ⟨j, v0, hf, hj, hg⟩
  · refine ⟨.map es ck, ?_, es, ck, hb_setBlock_same h1 _, ?_, h3, h4, ?_⟩
    · simp [Sem.run_bind, run_underlying ht, hgo, E.law.check w _ hlx, hf, hso]
    · have : alDel l k = l := List.filter_eq_self.2 (fun x hx => by simpa using hne x hx)
      rw [this]; exact h2
    · exact (List.filter_sublist.map _).nodup h5
  · have hjl : j < l.length := by
      rcases Nat.lt_or_ge j l.length with h' | h'
      · exact h'
      · simp [List.getElem?_eq_none h'] at hj
    have hje : j < es.size := by
      have := congrArg List.length h2
      simp at this
      omega
    have hdel : alDel l k = l.eraseIdx j := by
      unfold alDel
      have a1 := h5
      rw [List.nodup_iff_pairwise_ne, List.pairwise_iff_getElem] at a1
      have c2 : l[j] = (k, v0) := by rw [List.getElem?_eq_getElem hjl] at hj; simpa using hj
      rw [List.eraseIdx_eq_take_drop_succ]
      conv => lhs; rw [← List.take_append_drop j l, List.drop_eq_getElem_cons hjl]
      rw [List.filter_append, List.filter_cons_of_neg (by simp [c2])]
      congr 1
      · refine List.filter_eq_self.2 (fun x hx => ?_)
        obtain ⟨i, hi, rfl⟩ := List.getElem_of_mem hx
        simp only [List.length_take] at hi
        have := a1 i j (by simp; omega) (by simpa using hjl) (by omega)
        simp [c2] at this
        simpa using this
      · refine List.filter_eq_self.2 (fun x hx => ?_)
        obtain ⟨i, hi, rfl⟩ := List.getElem_of_mem hx
        simp only [List.length_drop] at hi
        have := a1 j (j + 1 + i) (by simpa using hjl) (by simp; omega) (by omega)
        simp [c2] at this
        simp only [List.getElem_drop, ne_eq, decide_eq_true_eq]
        exact fun e => this e.symm
    have her : (es.eraseIdxIfInBounds j).toList = es.toList.eraseIdx j := by
      simp [Array.eraseIdxIfInBounds, hje]
    refine ⟨.map (es.eraseIdxIfInBounds j) ck, ?_, es.eraseIdxIfInBounds j, ck, hb_setBlock_same h1 _, ?_, ?_, ?_, ?_⟩
    · simp [Sem.run_bind, run_underlying ht, hgo, E.law.check w _ hlx, hf, hso]
    · rw [hdel, her, ChangeMaps.map_eraseIdx, h2, ← ChangeMaps.map_eraseIdx]
    · rw [her, ChangeMaps.map_eraseIdx]
      exact (List.eraseIdx_sublist _ _).nodup h3
    · intro e he
      rw [her] at he
      exact h4 e ((List.eraseIdx_sublist _ _).subset he)
    · exact (List.filter_sublist.map _).nodup h5

omit [DecidableEq K] in
theorem MapIs.len (ht : P.underlying T = some (.map kt et)) {w : World} {b : Nat} {l : List (K × V)} (h : MapIs ek ev w b l) (ty : TypeId) :
    (Builtin.len_ #[T] ty #[.map (some b)]).run P w = .ok (.int .i64 l.length) w := by
  obtain ⟨es, ck, h1, h2, _⟩ := h
  have hl : es.size = l.length := by
    have := congrArg List.length h2
    simpa using this
  have hgo : (getObj b).run P w = .ok (.map es ck) w := by simp [getObj, Sem.run, h1]
  unfold Builtin.len_
  simp [Sem.run_bind, run_underlying ht, hgo, goInt, hl]

/-! the laws at the operation, for the walk -/
section
variable {w : World} {ops : Array Oper} {rest : List Oper} {o : Oper} {a : Act} {Q : Exit → Act → World → Prop}
/-- 'm[k] = v'. -/
theorem wpList_put_is (hg : o.guard = none) (m x v : Operand) (hop : o.op = Op.mapUpdate T m x v) (E : KeyEnc P kt ek) (ht : P.underlying T = some (.map kt et))
    {b : Nat} {l : List (K × V)} (h : MapIs ek ev w b l) (k : K) (vv : V) (hm : a.eval m = .map (some b)) (hx : a.eval x = ek k) (hv : a.eval v = ev vv)
    (hK : ∀ ob, MapIs ek ev (setBlock w b ob) b (alPut l k vv) → wpList P ops Q rest (a.put o.dst undef) (setBlock w b ob)) :
    wpList P ops Q (o :: rest) a w := by
  refine wpList_plain hg fun K' hK' => ?_
  obtain ⟨ob, hrun, r1⟩ := h.update E ht k vv
  unfold Oper.wp
  simp [execOp, hop, hm, hx, hv, hrun, Result.andThen]
  exact hK' _ _ (hK ob r1)
/-- 'delete(m, k)'. -/
theorem wpList_del_is (hg : o.guard = none) (m x : Operand) (hop : o.op = Op.call { callee := Callee.builtin Builtin.delete, args := #[m, x], argTypes := #[T, kt] }) (E : KeyEnc P kt ek) (ht : P.underlying T = some (.map kt et))
    {b : Nat} {l : List (K × V)} (h : MapIs ek ev w b l) (k : K) (hm : a.eval m = .map (some b)) (hx : a.eval x = ek k)
    (hK : ∀ ob, MapIs ek ev (setBlock w b ob) b (alDel l k) → wpList P ops Q rest (a.put o.dst (.tuple #[])) (setBlock w b ob)) :
    wpList P ops Q (o :: rest) a w := by
  refine wpList_plain hg fun K' hK' => ?_
  obtain ⟨ob, hrun, r1⟩ := h.delete E ht k o.type
  unfold Oper.wp
  simp [execOp, hop, resolve, invoke, builtin, hm, hx, hrun, Result.andThen]
  exact hK' _ _ (hK ob r1)
end
end
end Go.Proofs.Ytoigddekipjkcaa
