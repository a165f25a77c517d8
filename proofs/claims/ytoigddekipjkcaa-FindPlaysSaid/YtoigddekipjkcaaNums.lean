/- Copying a slice of numbers. -/
import Derived.Maps.AppendAt
import Derived.ProofKit
import Derived.Test.YtoigddekipjkcaaSweepsL
namespace Go.Proofs.Ytoigddekipjkcaa
set_option linter.all false
open Go Go.RowKit Go.Proofs Go.Maps

theorem NumRow.of_own {w : World} {base : Nat} {v : Value} {ks : List U64} (h : w.ownsRow base 31 1 v ks.length (u64Cells ks)) : NumRow w v ks := by
  obtain ⟨ad, cap, rfl⟩ := ownsRow_shape h
  refine ⟨ad, cap, rfl, fun i k hi => ?_⟩
  obtain ⟨g, cap', cur, e, h1, h2, h3⟩ := row_at h hi
  refine ⟨g, 0, by simp at e; exact e.1, ?_⟩
  rw [Nat.zero_add]
  exact (cell_of h2).trans h3
theorem size_u64 (w : World) : (Sem.run Try.prog (sizeOf 31) w) = .ok 1 w := by kernel_rfl
theorem run_append_none (w : World) (ty : TypeId) (a : Addr) (n c c2 : Nat) (hn : n ≤ c) :
    (Builtin.append_ #[36, 36] ty #[.slice (some a) n c, .slice none 0 c2]).run Try.prog w = .ok (.slice (some a) n c) w := by
  have hu : Sem.run Try.prog (underlying 36) w = .ok (.slice 31) w := run_underlying Try.underlying36 w
  unfold Builtin.append_
  simp [Sem.run_bind, hu, size_u64, Builtin.lenOf, Builtin.firstCells, hn, storeCells]
theorem run_append_nums (w : World) (ty : TypeId) (base : Nat) (ad0 : Addr) (cap0 : Nat) (xs ks : List U64) (hown : w.ownsRow base 31 1 (.slice (some ad0) xs.length cap0) xs.length (u64Cells xs))
    (v : Value) (hr : NumRow w v ks) (hlen : xs.length + ks.length ≤ 1000000) (hbase : base ≤ w.heap.size) :
    ∃ ad cap w', (Builtin.append_ #[36, 36] ty #[.slice (some ad0) xs.length cap0, v]).run Try.prog w = .ok (.slice (some ad) (xs ++ ks).length cap) w' ∧
      w'.ownsRow base 31 1 (.slice (some ad) (xs ++ ks).length cap) (xs ++ ks).length (u64Cells (xs ++ ks)) ∧ w.grownBy w' (some ad0.block) ∧ (ad.block = ad0.block ∨ ad.block = w.heap.size) := by
  obtain ⟨ad, cap, rfl, hrow⟩ := hr
  cases ad with
  | none =>
    have hk : ks = [] := by
      cases ks with
      | nil => rfl
      | cons k ks => obtain ⟨b, o, e, _⟩ := hrow 0 k rfl; cases e
    subst hk
    have hc : xs.length ≤ cap0 := by
      rcases hown.2 with ⟨e, _⟩ | ⟨g, c', cur, e, _, _, h4, _⟩
      · cases e
      · simp at e; omega
    have hrun := run_append_none w ty ad0 xs.length cap0 cap hc
    exact ⟨ad0, cap0, w, by simpa using hrun, by simpa using hown, ⟨rfl, rfl, rfl, Nat.le_refl _, fun _ _ _ => rfl⟩, .inl rfl⟩
  | some ad =>
    obtain ⟨i0, hi, hz0, hz1, hz2⟩ := info_parts infoU64
    obtain ⟨v', w', hrun, h1, h2, h3, h4⟩ := run_append_own_at (P := Try.prog) w base 36 ty 31 i0 (.int .u64 0) 1 8 Try.underlying36 hi hz0 hz1 hz2 rfl (by decide) _ _ _ hown ad ks.length cap (u64Cells ks) (by simp [u64Cells]) (by
      intro j u hj
      unfold u64Cells at hj
      rw [List.getElem?_map] at hj
      cases hk : ks[j]? with
      | none => rw [hk] at hj; cases hj
      | some k =>
        rw [hk] at hj
        obtain ⟨b, o, e, hc⟩ := hrow j k hk
        cases e
        cases hj
        rw [Addr.add_lit]; exact hc) (by
      intro u hu
      unfold u64Cells at hu
      obtain ⟨k, _, rfl⟩ := List.mem_map.1 hu
      rfl) (by unfold maxLen; omega) (by omega) hbase
    have e1 : u64Cells xs ++ u64Cells ks = u64Cells (xs ++ ks) := by simp [u64Cells]
    have e2 : xs.length + ks.length = (xs ++ ks).length := by simp
    rw [e1, e2] at h1
    obtain ⟨ad', cap', rfl⟩ := ownsRow_shape h1
    cases ad' with
    | none =>
      exfalso
      have h5 : (Value.slice none (xs ++ ks).length cap') = .slice none 0 0 := by
        rcases h1.2 with ⟨e, _⟩ | ⟨g, c', cur, e, _⟩
        · exact e
        · cases e
      have := (h3.1 h5).1
      cases this
    | some ad' =>
      exact ⟨ad', cap', w', hrun, h1, (by simpa [Value.ownBlock] using h2), (by simpa [Value.ownBlock] using h4)⟩
/-- 'append(a row of the call's own, v..)', v a slice of numbers wherever it lies; guarded or not. -/
theorem wpList_append_nums {ops : Array Oper} {rest : List Oper} {o : Oper} {a : Act} {Q : Exit → Act → World → Prop} (w : World) (hgd : Region.wanted o (yielded ops a.tmps) = true) (s x : Operand)
    (ho : o.op = .call { callee := .builtin .append, args := #[s, x], argTypes := #[36, 36] })
    (base : Nat) (ad0 : Addr) (cap0 : Nat) (xs ks : List U64) (hs : a.eval s = .slice (some ad0) xs.length cap0) (hown : w.ownsRow base 31 1 (.slice (some ad0) xs.length cap0) xs.length (u64Cells xs))
    (v : Value) (hx : a.eval x = v) (hr : NumRow w v ks) (hlen : xs.length + ks.length ≤ 1000000) (hbase : base ≤ w.heap.size)
    (h : ∀ ad cap w', w'.ownsRow base 31 1 (.slice (some ad) (xs ++ ks).length cap) (xs ++ ks).length (u64Cells (xs ++ ks)) → w.grownBy w' (some ad0.block) → (ad.block = ad0.block ∨ ad.block = w.heap.size) → wpList Try.prog ops Q rest (a.put o.dst (.slice (some ad) (xs ++ ks).length cap)) w') :
    wpList Try.prog ops Q (o :: rest) a w := by
  refine wpList_step fun K' hK' => ?_
  rw [if_pos hgd]
  obtain ⟨ad, cap, w', hrun, h1, h2, h3⟩ := run_append_nums w o.type base ad0 cap0 xs ks hown v hr hlen hbase
  unfold Oper.wp execOp
  simp only [ho, resolve, invoke, builtin, Sem.run_bind, Sem.run_pure, Result.andThen_ok, List.map_toArray, List.map_cons, List.map_nil, hs, hx, hrun]
  exact hK' _ _ (h ad cap w' h1 h2 h3)
end Go.Proofs.Ytoigddekipjkcaa
