/- slices.AppendSeq, slices.Collect over maps.Keys. -/
import Derived.Test.YtoigddekipjkcaaSeq
namespace Go.Proofs.Ytoigddekipjkcaa
set_option linter.all false
open Go Go.RowKit Go.Proofs Go.Maps Go.Shelf
open Go.ChangeMaps (setBlock)
attribute [local go_sem] Oper.semAt_some

/-- maps.Keys hands back a value that is an iterator over the map's keys. -/
theorem keys_stops (F : Fence) (n : Nat) (hf : F.fn 84) (hro : F.round = none) (hn : 1 ≤ n) (Bm b : Nat) (M : List (U64 × Nat)) (w : World) (hBm : Bm < w.heap.size)
    (hm : w.cell? ⟨Bm, 0, none⟩ = some (.map (some b))) (hM : MapIs ekK evP w b M) :
    SeqStopsK F n Try.prog 84 #[.pointer (some ⟨Bm, 0, none⟩)] (fun x => #[ekK x]) KeepsWalks (fun ks => ks.Perm (M.map (·.1))) (fun _ => True) M.length w := fun l J Jx W hW hJ _ hY h0 =>
  keys1_in F n hf hro hn l Bm b M J Jx hY W hJ ((hW.cell (p := ⟨Bm, 0, none⟩) hBm).trans hm) (hM.same (hW.block b hM.lt)) h0
def keyCells (ks : List U64) : List Value := ks.map fun k => .int .u64 (k.1 : Int)
theorem infoKey : (Try.prog.info? 102).map (fun i => (i.zero, i.size, i.bytes)) = some (some (.agg #[.int .u64 0]), 1, 8) := by kernel_rfl
set_option maxRecDepth 100000 in
set_option maxHeartbeats 2000000 in
theorem append_in (F : Fence) (n : Nat) (hf : F.fn 95) (hk1 : F.fn 84) (hro : F.round = none) (hn : 3 ≤ n)
    (Bm b : Nat) (M : List (U64 × Nat)) (hlen : M.length ≤ 1000000) (w : World) (hBm : Bm < w.heap.size) (hm : w.cell? ⟨Bm, 0, none⟩ = some (.map (some b))) (hM : MapIs ekK evP w b M) :
    CallsIn F n Try.prog 95 #[.slice none 0 0, .func (.func 84) #[] #[.pointer (some ⟨Bm, 0, none⟩)]] w fun e W' =>
      ∃ v ks, e = .returned v ∧ ks.Perm (M.map (·.1)) ∧ W'.ownsRow w.heap.size 102 1 v ks.length (keyCells ks) ∧ Below w.heap.size w W' := by
  have h1 : 1 ≤ n := by omega
  obtain ⟨i0, hi, hz0, hz1, hz2⟩ := info_parts infoKey
  refine callsIn_of_wp_marks Try.func95 rfl hf ?_ hro
  simp only [Try.ntmps95, List.size_toArray, List.length_cons, List.length_nil, Nat.reduceAdd, Nat.reduceSub, Array.replicate_succ, Array.replicate_zero, List.push_toArray, List.append_toArray, List.nil_append, List.cons_append]
  gi_wp2
  have bO := Boxed.new w 99 (.slice none 0 0)
  have hB0 : Below w.heap.size w (w.alloc (.cells #[.slice none 0 0] 99)) := (Below.refl _ w).alloc (Nat.le_refl _) _
  have hM0 : MapIs ekK evP (w.alloc (.cells #[.slice none 0 0] 99)) b M := hM.alloc _
  have hm0 : (w.alloc (.cells #[.slice none 0 0] 99)).cell? ⟨Bm, 0, none⟩ = some (.map (some b)) := (hB0.cell (p := ⟨Bm, 0, none⟩) hBm).trans hm
  refine wpIn_rangeFunc_ownH hro h1 (gf := 84) (lb := #[.pointer (some ⟨Bm, 0, none⟩)]) rfl hk1 (enters_of Try.func84 (by kernel_rfl) rfl)
    (keys_stops F (n - 1) hk1 hro (by omega) Bm b M _ (by simp; omega) hm0 hM0) walksK_t walksK_b (Below.refl _ _) (fun _ => rfl)
    (fun pre W => (∃ v, Boxed W w.heap.size 99 v ∧ W.ownsRow w.heap.size 102 1 v pre.length (keyCells pre) ∧ True) ∧ Below w.heap.size w W)
    (fun _ _ _ => False)
    (OwnFrom.and (Own.from (holdsRow_own w.heap.size w.heap.size 99 102 1 (fun pre => pre.length) (fun pre => keyCells pre) (fun pre v => True)) _) (ownFrom_below (Nat.le_refl _) (by simp)))
    (fun _ _ _ _ _ hs _ _ => hs)
    ⟨⟨_, bO, World.ownsRow_nil _ _ _ _, trivial⟩, hB0⟩
    (fun x a' W => ∃ Bx, w.heap.size < Bx ∧ Boxed W Bx 102 (.int .u64 (x.1 : Int)) ∧ a' = { tmps := #[.slice none 0 0, .func (.func 84) #[] #[.pointer (some ⟨Bm, 0, none⟩)], .pointer (some ⟨w.heap.size, 0, none⟩), undef, .slice none 0 0, .pointer (some ⟨Bx, 0, none⟩), .func (.func 84) #[] #[.pointer (some ⟨Bm, 0, none⟩)], ekK x, undef, undef, undef, undef, undef], defers := [] })
    (fun x a' _ X Y row hs hg hr => by obtain ⟨Bx, h1, h2, h3⟩ := hs; exact ⟨Bx, h1, boxed_own Bx 102 (fun (_ : Unit) => Value.int .u64 (x.1 : Int)) () X Y row h2 hg (fun r e => (hr r e).2), h3⟩)
    ?assign ?body ?done ?stop
  case assign =>
    rintro l pre x W K ⟨⟨v, hv, hrow, _⟩, hB⟩ hK
    unfold ekK at hK ⊢
    gi_wp2
    exact hK _ _ ((KeepsOthers.alloc _ _).from _) (KeepsWalks.alloc _ _) ⟨⟨v, hv.alloc _, hrow.alloc _, trivial⟩, hB.alloc hB.size _⟩ ⟨W.heap.size, hv.lt, Boxed.new W _ _, rfl⟩
  case body =>
    rintro l pre x a' W hl hrec ⟨⟨v, hv, hrow, _⟩, hB⟩ ⟨Bx, hBx, bX, rfl⟩ hlt
    have hc := hv.cell
    have cX := bX.cell
    gi_wp2_with (gi_at_builtin; refine wpListIn_append_own _ rfl _ _ 99 rfl w.heap.size 102 i0 (.agg #[.int .u64 0]) 1 8 Try.underlying99 hi hz0 hz1 hz2 rfl (by decide) _ _ _ rfl (hrow.alloc _) ⟨W.heap.size, 0, none⟩ 1 1 [.int .u64 (x.1 : Int)] rfl rfl (cell_one_new _ _ _) ?h1 ?h63 ?hbytes ?hbase ?_)
    case h1 => simp [Value.oneCell']
    case h63 => unfold maxLen; omega
    case hbytes => omega
    case hbase => have := hB.size; simp; omega
    intro v' w1 hown' hgrow _
    obtain ⟨g', cap', rfl⟩ := ownsRow_succ hown'
    obtain ⟨hv1, hv2, hr2, hk2, hb2⟩ := hv.appended (by decide) hrow hB.size (Nat.le_refl _) hown' hgrow
    have hc1 := hv1.cell
    have hf1 := hv1.frozen
    gi_wp2
    exact ⟨hk2.from _, hk2.walks, ⟨_, hv2, by simpa [keyCells] using hr2, trivial⟩, hB.trans hb2⟩
  case done =>
    rintro D ks W hD hperm ⟨⟨v, hv, hrow, _⟩, hB⟩ hK
    have hc := hv.cell
    gi_wp2
    refine ⟨by simp, .inl ⟨_, _, rfl, run_takeDeferred hK, ?_⟩⟩
    exact ⟨_, results_tmp rfl _ _ _, v, ks, rfl, hperm, ownsRow_putObj hrow _ hK rfl, hB.trans (belowK_b (w := w) (Nat.le_refl _) W D _ _ (by simp at hD; omega) hK rfl rfl)⟩
  case stop =>
    rintro D c pre W _ _ h _
    exact h.elim
end Go.Proofs.Ytoigddekipjkcaa
