/- maps.Keys over a map that is an association list. -/
import Derived.RangeFuncNested
import Derived.RangeFuncBound
import Derived.RangeFuncCalls
import Derived.RangeFuncLeaves
import Derived.RangeFuncBox
import Derived.Shelf.Abstract
import Derived.Shelf.RegionOpen
import Derived.WalkKit
import Derived.OwnWalkIn
import Derived.TacticsInMore
import Derived.LoopNIn
import Derived.LoopIn
import Derived.Maps.OwnIn
import Derived.Maps.AppendAt
import Derived.Sort.LoopGhostIn
import Derived.Sort.CutIn
import Derived.Test.YtoigddekipjkcaaRange
import Derived.Test.YtoigddekipjkcaaNew
namespace Go.Proofs.Ytoigddekipjkcaa
set_option linter.all false
open Go Go.RowKit Go.Proofs Go.Maps Go.Shelf
open Go.ChangeMaps (setBlock)
attribute [local go_sem] Oper.semAt_some

section
variable {K V : Type} {F : Fence} {nF : Nat} {P : Program} {kt et T : TypeId} {ek : K → Value} {ev : V → Value} (w : World) {ops : Array Oper} {rest : List Oper} {o : Oper} {a : Act} {Q : Exit → Act → World → Prop}
theorem wpListIn_range_is [DecidableEq K] (hg : o.guard = none) (m : Operand) (hop : o.op = Op.range T m) (ht : P.underlying T = some (.map kt et))
    {b : Nat} {l : List (K × V)} (hm : a.eval m = .map (some b)) (h : MapIs ek ev w b l)
    (hK : ∀ w', Rng ek ev w' b w.heap.size l [] → w.grownBy w' none → w'.heap.size = w.heap.size + 1 → wpListIn F nF P ops Q rest (a.put o.dst (.pointer (some ⟨w.heap.size, 0, none⟩))) w') :
    wpListIn F nF P ops Q (o :: rest) a w := by
  refine wpListIn_plain hg fun K' hK' => ?_
  obtain ⟨ob, hrun, r1⟩ := run_range_is ht h
  unfold Oper.wpIn
  refine ⟨by simp [Oper.about, hop], ?_⟩
  rw [Oper.semAt_plain F _ _ (by rw [hop]; intro c hc'; cases hc')]
  simp [execOp, hop, hm, hrun, Result.andThen]
  exact hK' _ _ (hK _ r1 (World.grownBy_alloc w ob none) (by simp))
theorem setBlock_grown (w : World) (n r : Nat) (ob : Obj) : w.grownBy (setBlock (w.drewN n) r ob) (some r) :=
  ⟨rfl, rfl, rfl, by simp [size_setBlock], fun k _ hk => (hb_block_setBlock r ob k (fun e => hk (by rw [e]))).trans rfl⟩
theorem wpListIn_next_is (hg : o.guard = none) (it : Operand) (hop : o.op = Op.next it false)
    {b r : Nat} {l done : List (K × V)} (hit : a.eval it = .pointer (some ⟨r, 0, none⟩)) (hl : (l.map (·.1)).Nodup) (h : Rng ek ev w b r l done)
    (hDone : (∀ x ∈ l, x ∈ done) → wpListIn F nF P ops Q rest (a.put o.dst (.tuple #[.bool false])) w)
    (hMore : ∀ x w', x ∈ l → x ∉ done → Rng ek ev w' b r l (done ++ [x]) → w.grownBy w' (some r) → w'.heap.size = w.heap.size →
      (Instr.entry (.pointer (some ⟨r, 0, none⟩))).run P w' = .ok (.tuple #[ek x.1, ev x.2]) w' → wpListIn F nF P ops Q rest (a.put o.dst (.tuple #[.bool true, ek x.1, ev x.2])) w') :
    wpListIn F nF P ops Q (o :: rest) a w := by
  refine wpListIn_plain hg fun K' hK' => ?_
  unfold Oper.wpIn
  refine ⟨by simp [Oper.about, hop], ?_⟩
  rw [Oper.semAt_plain F _ _ (by rw [hop]; intro c hc'; cases hc')]
  rcases run_next_is (P := P) hl h o.type with ⟨hrun, hd⟩ | ⟨x, n, ob, hx, hxd, hrun, hr⟩
  · simp [execOp, hop, hit, hrun, Result.andThen]
    exact hK' _ _ (hDone hd)
  · simp [execOp, hop, hit, hrun, Result.andThen]
    exact hK' _ _ (hMore x _ hx hxd hr (setBlock_grown w n r ob) (by simp [size_setBlock]) (run_entry_is hr))
end
theorem MapIs.nodup {K V : Type} {ek : K → Value} {ev : V → Value} {w : World} {b : Nat} {l : List (K × V)} (h : MapIs ek ev w b l) : (l.map (·.1)).Nodup := by
  obtain ⟨_, _, _, _, _, _, hn⟩ := h; exact hn
theorem Rng.sub {K V : Type} {ek : K → Value} {ev : V → Value} {w : World} {b r : Nat} {l done : List (K × V)} (h : Rng ek ev w b r l done) : ∀ x ∈ done, x ∈ l := by
  obtain ⟨_, _, _, _, _, _, _, _, _, h7, _⟩ := h; exact h7
theorem Rng.nd {K V : Type} {ek : K → Value} {ev : V → Value} {w : World} {b r : Nat} {l done : List (K × V)} (h : Rng ek ev w b r l done) : done.Nodup := by
  obtain ⟨_, _, _, _, _, _, _, _, h6, _⟩ := h; exact h6
theorem Rng.lt {K V : Type} {ek : K → Value} {ev : V → Value} {w : World} {b r : Nat} {l done : List (K × V)} (h : Rng ek ev w b r l done) : b < w.heap.size ∧ r < w.heap.size := by
  obtain ⟨_, _, _, h1, _, _, _, h5, _⟩ := h; exact ⟨hb_lt h1, hb_lt h5⟩
theorem nodup_of_map {α β : Type} {f : α → β} : ∀ {l : List α}, (l.map f).Nodup → l.Nodup
  | [], _ => List.nodup_nil
  | a :: l, h => by
    rw [List.map_cons, List.nodup_cons] at h
    exact List.nodup_cons.2 ⟨fun ha => h.1 (List.mem_map_of_mem ha), nodup_of_map h.2⟩
theorem length_le_of_sub {α : Type} [DecidableEq α] : ∀ {d l : List α}, d.Nodup → (∀ x ∈ d, x ∈ l) → d.length ≤ l.length
  | [], _, _, _ => Nat.zero_le _
  | a :: d, l, hd, hs => by
    rw [List.nodup_cons] at hd
    have ha := hs a (by simp)
    have := length_le_of_sub (d := d) (l := l.erase a) hd.2 (fun x hx => (List.mem_erase_of_ne (fun e => hd.1 (by rw [← e]; exact hx))).2 (hs x (by simp [hx])))
    rw [List.length_erase_of_mem ha] at this
    have := List.length_pos_of_mem ha
    simp; omega

set_option maxRecDepth 100000 in
set_option maxHeartbeats 1000000 in
theorem keys1_in (F : Fence) (n : Nat) (hf : F.fn 84) (hro : F.round = none) (hn : 1 ≤ n) (l Bm b : Nat) (M : List (U64 × Nat)) (J Jx : List U64 → World → Prop)
    (hY : ∀ pre x W, J pre W → pre.length < M.length → YieldAt F (n - 1) Try.prog l #[ekK x] W fun e W' =>
      (e = .returned (.bool true) ∧ J (pre ++ [x]) W' ∧ KeepsWalks W W') ∨ (e = .returned (.bool false) ∧ Jx (pre ++ [x]) W'))
    (W : World) (hJ : AbidesFrom W.heap.size J) (hm : W.cell? ⟨Bm, 0, none⟩ = some (.map (some b))) (hM : MapIs ekK evP W b M) (h0 : J [] W) :
    CallsIn F n Try.prog 84 #[.func (.yield l) #[] #[], .pointer (some ⟨Bm, 0, none⟩)] W fun e W' => (∃ v, e = .returned v) ∧
      ((∃ ks : List U64, ks.Perm (M.map (·.1)) ∧ J ks W') ∨ (∃ pre : List U64, True ∧ Jx pre W')) := by
  have hnd := hM.nodup
  have hnm := nodup_of_map hnd
  refine callsIn_of_wp Try.func84 rfl hf ?_ hro
  simp only [Try.ntmps84, List.size_toArray, List.length_cons, List.length_nil, Nat.reduceAdd, Nat.reduceSub, Array.replicate_succ, Array.replicate_zero, List.push_toArray, List.append_toArray, List.nil_append, List.cons_append]
  gi_wp2_with (first
    | (gi_at_range; refine wpListIn_range_is _ rfl _ rfl Try.underlying77 rfl hM ?_; intro w0 hrg0 hg0 hs0)
    | gi_in)
  go_frame
  gi_loopg [3] (M.length) (fun k _ wr => ∃ done : List (U64 × Nat), k + done.length = M.length ∧ Rng ekK evP wr b W.heap.size M done ∧ J (done.map (·.1)) wr)
  case atStart =>
    exact ⟨[], by simp, hrg0, hJ [] W w0 none h0 hg0 (fun r e => by cases e)⟩
  case round =>
    obtain ⟨done, hk, hrg, hJs⟩ := hrel
    gi_wp2_with (first
      | (gi_at_next; refine wpListIn_next_is _ rfl _ rfl rfl hnd hrg ?_ ?_)
      | gi_in)
    · intro hall
      gi_wp2
      go_end0
      refine ⟨⟨_, rfl⟩, .inl ⟨done.map (·.1), List.Perm.map _ ((List.perm_ext_iff_of_nodup hrg.nd hnm).2 fun x => ⟨hrg.sub x, hall x.1.1 x.1.2 x.2⟩), hJs⟩⟩
    · unfold ekK
      intro k0 hk0 q0 w2 hxl hxd hrg2 hg2 hs2 hen
      obtain ⟨x, hx⟩ : ∃ x : U64 × Nat, x = (⟨k0, hk0⟩, q0) := ⟨_, rfl⟩
      rw [← hx] at hxl hxd hrg2
      obtain ⟨hx1, hx2⟩ : x.1 = ⟨k0, hk0⟩ ∧ x.2 = q0 := by rw [hx]; exact ⟨rfl, rfl⟩
      simp only [ekK] at hen
      clear hx
      have hJ2 : J (done.map (·.1)) w2 := hJ _ wr w2 (some W.heap.size) hJs hg2 (fun r e => by cases e; exact ⟨Nat.le_refl _, hrg.walk⟩)
      have hlen : done.length < M.length := by
        have := length_le_of_sub (d := done ++ [x]) (l := M) hrg2.nd hrg2.sub
        simp at this; omega
      have hJ3 : J (done.map (·.1)) (w2.alloc (Obj.cells #[.int .u64 (k0 : Int)] 102)) := hJ _ w2 _ none hJ2 (World.grownBy_alloc w2 _ none) (fun r e => by cases e)
      have hrg2' : Rng ekK evP (w2.alloc (Obj.cells #[.int .u64 (k0 : Int)] 102)) b W.heap.size M (done ++ [x]) := hrg2.same (Below.heap_alloc _ _ _ hrg2.lt.1) (Below.heap_alloc _ _ _ hrg2.lt.2)
      obtain ⟨fn, tmps, assign, body, hy, hR⟩ := hY (done.map (·.1)) x.1 _ hJ3 (by simpa using hlen)
      rw [hx1] at hy
      simp only [ekK] at hy
      clear hs2
      gi_wp2
      refine hR.mono ?_
      rintro e W3 (⟨rfl, hJ3, hk3⟩ | ⟨rfl, hJx3⟩)
      · gi_wp2
        have hrg3 := hrg2'.of_walks hk3
        gi_roundg (gk - 1)
        case measure => omega
        case rel => exact ⟨done ++ [x], by simp; omega, hrg3, by simpa using hJ3⟩
      · gi_wp2
        refine bodyPost_ret (results_none rfl _ _ _) rfl ?_
        exact ⟨⟨_, rfl⟩, .inr ⟨_, trivial, hJx3⟩⟩
end Go.Proofs.Ytoigddekipjkcaa
