/- Ranging over a map that is an association list. -/
import Derived.Test.YtoigddekipjkcaaBase
import Derived.Test.YtoigddekipjkcaaCells
import Derived.RangeFuncSeq
namespace Go.Proofs.Ytoigddekipjkcaa
set_option linter.all false
open Go Go.RowKit
open Go.ChangeMaps (setBlock)
section
variable {K V : Type} {P : Program} {kt et T : TypeId} {ek : K → Value} {ev : V → Value}
/-- Block r is an iterator over the map in block b, which holds l; the entries in 'done' have come. -/
def Rng (ek : K → Value) (ev : V → Value) (w : World) (b r : Nat) (l done : List (K × V)) : Prop :=
  ∃ es ck seen, w.heap[b]? = some (.map es ck) ∧ es.toList.map (fun e => (e.key, e.val)) = l.map (fun x => (ek x.1, ev x.2)) ∧
    (es.toList.map (·.born)).Nodup ∧ (∀ e ∈ es.toList, e.born < ck) ∧ w.heap[r]? = some (.mapIter (some b) ck seen ck) ∧ done.Nodup ∧ (∀ x ∈ done, x ∈ l) ∧
    (∀ (j : Nat) (e : MapEntry) (x : K × V), es.toList[j]? = some e → l[j]? = some x → (seen.contains e.born = true ↔ x ∈ done)) ∧
    (∀ x, done.getLast? = some x → ∃ (j : Nat) (e : MapEntry), es.toList[j]? = some e ∧ l[j]? = some x ∧ seen.back? = some e.born)
theorem Rng.same {w w' : World} {b r : Nat} {l done : List (K × V)} (h : Rng ek ev w b r l done) (h1 : w'.heap[b]? = w.heap[b]?) (h2 : w'.heap[r]? = w.heap[r]?) : Rng ek ev w' b r l done := by
  obtain ⟨es, ck, seen, a1, a2, a3, a4, a5, a6⟩ := h
  exact ⟨es, ck, seen, h1.trans a1, a2, a3, a4, h2.trans a5, a6⟩
theorem Rng.walk {w : World} {b r : Nat} {l done : List (K × V)} (h : Rng ek ev w b r l done) : ∃ o : Obj, w.heap[r]? = some o ∧ o.isWalk = true := by
  obtain ⟨es, ck, seen, a1, a2, a3, a4, a5, a6⟩ := h
  exact ⟨_, a5, rfl⟩
theorem Rng.of_walks {w w' : World} {b r : Nat} {l done : List (K × V)} (h : Rng ek ev w b r l done) (hk : KeepsWalks w w') : Rng ek ev w' b r l done := by
  obtain ⟨es, ck, seen, a1, a2, a3, a4, a5, a6⟩ := h
  exact ⟨es, ck, seen, hk.same b _ a1 rfl, a2, a3, a4, hk.same r _ a5 rfl, a6⟩
/-- 'range m'. -/
theorem run_range_is [DecidableEq K] (ht : P.underlying T = some (.map kt et)) {w : World} {b : Nat} {l : List (K × V)} (h : MapIs ek ev w b l) :
    ∃ o, (Instr.range T (.map (some b))).run P w = .ok (.pointer (some ⟨w.heap.size, 0, none⟩)) (w.alloc o) ∧ Rng ek ev (w.alloc o) b w.heap.size l [] := by
  obtain ⟨es, ck, h1, h2, h3, h4, h5⟩ := h
  have hgo : (getObj b).run P w = .ok (.map es ck) w := by simp [getObj, Sem.run, h1]
  refine ⟨.mapIter (some b) ck #[] ck, ?_, es, ck, #[], hb_alloc h1 _, h2, h3, h4, hb_new w _, by simp, by simp, fun j e x _ _ => by simp, fun x hx => by simp at hx⟩
  unfold Instr.range
  simp [Sem.run_bind, run_underlying ht, hgo, newObj, Sem.run]
theorem nodup_born_inj {es : List MapEntry} (h : (es.map (·.born)).Nodup) {i j : Nat} {e f : MapEntry} (hi : es[i]? = some e) (hj : es[j]? = some f) (hb : e.born = f.born) : i = j := by
  have b1 := (List.getElem?_eq_some_iff.1 hi).1
  have b2 := (List.getElem?_eq_some_iff.1 hj).1
  have c1 := (List.getElem?_eq_some_iff.1 hi).2
  have c2 := (List.getElem?_eq_some_iff.1 hj).2
  rw [List.nodup_iff_pairwise_ne, List.pairwise_iff_getElem] at h
  rcases Nat.lt_trichotomy i j with hlt | he | hlt
  · have := h i j (by simpa using b1) (by simpa using b2) hlt
    simp [c1, c2, hb] at this
  · exact he
  · have := h j i (by simpa using b2) (by simpa using b1) hlt
    simp [c1, c2, hb] at this
/-- The range's step. -/
theorem run_next_is {w : World} {b r : Nat} {l done : List (K × V)} (hl : (l.map (·.1)).Nodup) (h : Rng ek ev w b r l done) (ty : TypeId) :
    ((Instr.next (.pointer (some ⟨r, 0, none⟩)) false ty).run P w = .ok (.tuple #[.bool false]) w ∧ ∀ x ∈ l, x ∈ done) ∨
    ∃ x n ob, x ∈ l ∧ x ∉ done ∧ (Instr.next (.pointer (some ⟨r, 0, none⟩)) false ty).run P w = .ok (.tuple #[.bool true, ek x.1, ev x.2]) (setBlock (w.drewN n) r ob) ∧
      Rng ek ev (setBlock (w.drewN n) r ob) b r l (done ++ [x]) := by
  obtain ⟨es, ck, seen, h1, h2, h3, h4, h5, h6, h7, h8, h9⟩ := h
  have hbr : b ≠ r := fun e => by subst e; rw [h1] at h5; simp at h5
  have hget : ∀ j : Nat, (es.toList[j]?).map (fun e => (e.key, e.val)) = (l[j]?).map (fun x => (ek x.1, ev x.2)) := fun j => by
    have := congrArg (fun q => q[j]?) h2
    simpa using this
  have hgr : ∀ n, (getObj r).run P (w.drewN n) = .ok (.mapIter (some b) ck seen ck) (w.drewN n) := fun n => by
    simp [getObj, Sem.run, h5]
  have hgb : ∀ n, (getObj b).run P (w.drewN n) = .ok (.map es ck) (w.drewN n) := fun n => by
    simp [getObj, Sem.run, h1]
  have hchk : (!seen.isEmpty && !es.isEmpty && es.all (fun e => decide (e.born ≥ ck))) = false := by
    cases hes : es.isEmpty
    · have hpos : 0 < es.size := by
        rw [Array.isEmpty_eq_false_iff] at hes
        exact Array.size_pos_iff.2 hes
      have hm : es[0] ∈ es.toList := by simp
      have := h4 _ hm
      have hall : es.all (fun e => decide (e.born ≥ ck)) = false := by
        rw [Array.all_eq_false]
        exact ⟨0, hpos, by simp; omega⟩
      simp [hall]
    · simp
  have hold : (es.filter fun e => !seen.contains e.born).filter (fun e => decide (e.born < ck)) = es.filter fun e => !seen.contains e.born := by
    rw [Array.filter_eq_self]
    intro e he
    have := (Array.mem_filter.1 he).1
    simpa using h4 e (by simpa using this)
  have hnew : (es.filter fun e => !seen.contains e.born).filter (fun e => decide (e.born ≥ ck)) = #[] := by
    rw [Array.filter_eq_empty_iff]
    intro e he
    have := h4 e (by simpa using (Array.mem_filter.1 he).1)
    simp; omega
  by_cases hemp : (es.filter fun e => !seen.contains e.born) = #[]
  · left
    constructor
    · unfold Instr.next
      have e0 : w.drewN 0 = w := rfl
      have hgr0 := hgr 0
      have hgb0 := hgb 0
      rw [e0] at hgr0 hgb0
      simp only [Sem.run_bind, hgr0, Result.andThen_ok, hgb0, hchk, Bool.false_eq_true, if_false, Sem.run_pure, hold, hnew, hemp]
      simp [choose, Sem.run, Question.forced]
    · intro x hx
      obtain ⟨j, hj⟩ := List.getElem?_of_mem hx
      have hg := hget j
      rw [hj] at hg
      cases he : es.toList[j]? with
      | none => rw [he] at hg; simp at hg
      | some e =>
        refine (h8 j e x he hj).1 ?_
        rw [Array.filter_eq_empty_iff] at hemp
        have := hemp e (by simpa using List.mem_of_getElem? he)
        simpa using this
  · right
    have hsz : 0 < (es.filter fun e => !seen.contains e.born).size := Array.size_pos_iff.2 hemp
    obtain ⟨cand, hcand⟩ : ∃ c, c = es.filter fun e => !seen.contains e.born := ⟨_, rfl⟩
    rw [← hcand] at hsz hold hnew hemp
    have hch : ∃ i n, i < cand.size ∧ (choose (.mapNext cand.size)).run P w = .ok i (w.drewN n) := by
      by_cases hf : cand.size ≤ 1
      · exact ⟨0, 0, hsz, by simp [choose, Sem.run, Question.forced, hf]; rfl⟩
      · exact ⟨w.tape w.drawn (.mapNext cand.size) % cand.size, 1, Nat.mod_lt _ hsz, by simp [choose, Sem.run, Question.forced, hf, Question.cut]; rfl⟩
    obtain ⟨i, n, hi, hrun⟩ := hch
    have hmem : cand[i] ∈ cand := by simp
    obtain ⟨c0, hc0⟩ : ∃ c, c = cand[i] := ⟨_, rfl⟩
    rw [← hc0] at hmem
    have hmem2 : c0 ∈ es.filter fun e => !seen.contains e.born := by rw [← hcand]; exact hmem
    obtain ⟨hm1, hm2⟩ := Array.mem_filter.1 hmem2
    rw [hc0] at hm1 hm2
    obtain ⟨j, hj⟩ := List.getElem?_of_mem (show cand[i] ∈ es.toList by simpa using hm1)
    have hg := hget j
    rw [hj] at hg
    cases hlj : l[j]? with
    | none => rw [hlj] at hg; simp at hg
    | some x =>
      rw [hlj] at hg
      simp only [Option.map_some, Option.some.injEq, Prod.mk.injEq] at hg
      have hns : seen.contains cand[i].born = false := by simpa using hm2
      have hxd : x ∉ done := fun hd => by
        have := (h8 j _ x hj hlj).2 hd
        rw [hns] at this; cases this
      refine ⟨x, n, .mapIter (some b) ck (seen.push cand[i].born) ck, List.mem_of_getElem? hlj, hxd, ?_, es, ck, seen.push cand[i].born, ?_, h2, h3, h4, hb_setBlock_same (hb_drewN h5 n) _, ?_, ?_, ?_, ?_⟩
      · unfold Instr.next
        have e0 : w.drewN 0 = w := rfl
        have hgr0 := hgr 0
        have hgb0 := hgb 0
        rw [e0] at hgr0 hgb0
        have hce : cand.isEmpty = false := by rw [Array.isEmpty_eq_false_iff]; exact hemp
        simp only [Sem.run_bind, hgr0, Result.andThen_ok, hgb0, hchk, Bool.false_eq_true, if_false, Sem.run_pure, ← hcand, hold, hnew, hce]
        have hsz2 : ((#[] : Array (Option MapEntry)) ++ (cand ++ #[]).map some).size = cand.size := by simp
        rw [hsz2, hrun]
        have hget2 : ((#[] : Array (Option MapEntry)) ++ (cand ++ #[]).map some)[i]? = some (some cand[i]) := by simp [hi]
        simp only [Result.andThen_ok, hget2]
        have hso : ∀ o, (setObj r o).run P (w.drewN n) = .ok () (setBlock (w.drewN n) r o) := fun o => by
          simp [setObj, Sem.run, h5, ChangeMaps.setBlock]
        simp [Sem.run_bind, hso, hg.1, hg.2]
      · exact hb_setBlock (hb_drewN h1 n) _ _ hbr
      · rw [List.nodup_append]
        exact ⟨h6, by simp, fun a ha b' hb' e => by simp at hb'; subst hb'; subst e; exact hxd ha⟩
      · intro y hy
        rcases List.mem_append.1 hy with hy | hy
        · exact h7 y hy
        · simp at hy; subst hy; exact List.mem_of_getElem? hlj
      · intro j' e' x' hj' hx'
        have hiff := h8 j' e' x' hj' hx'
        rw [Array.contains_push, Bool.or_eq_true, hiff, List.mem_append, List.mem_singleton]
        constructor
        · rintro (h' | h')
          rotate_left
          · have hbb : e'.born = cand[i].born := by simpa using h'
            have := nodup_born_inj h3 hj' hj hbb
            subst this
            rw [hlj] at hx'
            cases hx'
            exact .inr rfl
          · exact .inl h'
        · rintro (h' | h')
          · exact .inl h'
          · subst h'
            right
            have hjj : j' = j := by
              have b1 := (List.getElem?_eq_some_iff.1 hx').1
              have b2 := (List.getElem?_eq_some_iff.1 hlj).1
              have c1 := (List.getElem?_eq_some_iff.1 hx').2
              have c2 := (List.getElem?_eq_some_iff.1 hlj).2
              rw [List.nodup_iff_pairwise_ne, List.pairwise_iff_getElem] at hl
              rcases Nat.lt_trichotomy j' j with hlt | he | hlt
              · have := hl j' j (by simpa using b1) (by simpa using b2) hlt
                simp [c1, c2] at this
              · exact he
              · have := hl j j' (by simpa using b2) (by simpa using b1) hlt
                simp [c1, c2] at this
            subst hjj
            rw [hj] at hj'
            cases hj'
            simp
      · intro y hy
        rw [List.getLast?_append] at hy
        replace hy : x = y := by simpa using hy
        subst hy
        exact ⟨j, cand[i], hj, hlj, by simp⟩
/-- The entry that has just come. -/
theorem run_entry_is {w : World} {b r : Nat} {l done : List (K × V)} {x : K × V} (h : Rng ek ev w b r l (done ++ [x])) :
    (Instr.entry (.pointer (some ⟨r, 0, none⟩))).run P w = .ok (.tuple #[ek x.1, ev x.2]) w := by
  obtain ⟨es, ck, seen, h1, h2, h3, h4, h5, h6, h7, h8, h9⟩ := h
  obtain ⟨j, e, hj, hlj, hb⟩ := h9 x (by simp)
  have hget : (es.toList[j]?).map (fun e => (e.key, e.val)) = (l[j]?).map (fun x => (ek x.1, ev x.2)) := by
    have := congrArg (fun q => q[j]?) h2
    simpa using this
  rw [hj, hlj] at hget
  simp only [Option.map_some, Option.some.injEq, Prod.mk.injEq] at hget
  have hgr : (getObj r).run P w = .ok (.mapIter (some b) ck seen ck) w := by simp [getObj, Sem.run, h5]
  have hgb : (getObj b).run P w = .ok (.map es ck) w := by simp [getObj, Sem.run, h1]
  have hfind : es.find? (fun f => f.born == e.born) = some e := by
    rw [← Array.find?_toList]
    rw [List.find?_eq_some_iff_getElem]
    refine ⟨by simp, j, (List.getElem?_eq_some_iff.1 hj).1, (List.getElem?_eq_some_iff.1 hj).2, fun i hi => ?_⟩
    have hil : i < es.toList.length := by have := (List.getElem?_eq_some_iff.1 hj).1; omega
    simp only [Bool.not_eq_true', beq_eq_false_iff_ne, ne_eq]
    intro hbb
    have := nodup_born_inj h3 (List.getElem?_eq_getElem hil) hj hbb
    omega
  unfold Instr.entry
  simp only [Sem.run_bind, hgr, Result.andThen_ok, hb, hgb]
  simp [hfind, hget.1, hget.2]
end
end Go.Proofs.Ytoigddekipjkcaa
