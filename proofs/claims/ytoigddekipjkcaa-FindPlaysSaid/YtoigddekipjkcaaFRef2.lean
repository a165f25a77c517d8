/- massifref22.Find: At, Unlike, Twice; massifref7.SameNumbers, SameHashes. -/
import Derived.Test.YtoigddekipjkcaaFRef
namespace Go.Proofs.Ytoigddekipjkcaa
set_option linter.all false
open Go Go.RowKit Go.Proofs Go.Maps
open Go.ChangeMaps (setBlock)
theorem URow.head {w : World} {base : Nat} {v : Value} {k : U64} {ks : List U64} (h : URow w base v (k :: ks)) : ∃ g cap, v = .slice (some ⟨g, 0, none⟩) (ks.length + 1) cap ∧ w.cell? ⟨g, 0, none⟩ = some (.int .u64 (k.1 : Int)) := by
  obtain ⟨g, cap, cur, e, h1, h2, h3⟩ := row_at (i := 0) (p := k) h rfl
  exact ⟨g, cap, e, (cell_of h2).trans h3⟩
section
variable {w : World} {rb : Nat} {L : List HB} {G : Nat → Prop}
set_option maxRecDepth 100000 in
theorem RFAt_any (h : RFAt w rb L G) (hL : L.length ≤ 1000000) (x : HB) : Calls Try.prog 14 #[.pointer (some ⟨rb, 0, none⟩), .agg (encH x)] w fun e w' =>
    ∃ v, e = .returned v ∧ URow w' w.heap.size v (idx L x) ∧ Below w.heap.size w w' := by
  have H := Lib.hid h; clear h
  obtain ⟨i0, hi0, hz0, hz1, hz2⟩ := info_parts infoU64
  go_enter Try.func14, Try.ntmps14
  go_wp2_with fail
  have hb0 : Below w.heap.size w (w.alloc (.cells (encH x) 30)) := (Below.refl _ _).alloc (Nat.le_refl _) _
  have HRX : Hid (rowAt (w.alloc (.cells (encH x) 30)) ⟨w.heap.size, 0, none⟩ 32 = some (encH x)) := rowAt_whole (hb_new w _) (size_encH _).symm
  go_loopg [5, 6] (L.length) (fun g vl vi wr => ∃ i, vi = .int .i64 (i : Nat) ∧ g + i = L.length ∧ wr.ownsRow (w.heap.size + 1) 31 1 vl (idx (L.take i) x).length (u64Cells (idx (L.take i) x)) ∧ Below (w.heap.size + 1) (w.alloc (.cells (encH x) 30)) wr)
  case atStart => exact ⟨0, rfl, by simp, World.ownsRow_nil _ _ _ _, Below.refl _ _⟩
  case round =>
    obtain ⟨i, rfl, hg, hown, hb⟩ := hrel
    have HG := Lib.hid hg; clear hg
    have HOW := Lib.hid hown; clear hown
    have hbw : Below w.heap.size w wr := hb0.trans (hb.mono (Nat.le_succ _))
    have hrx : rowAt wr ⟨w.heap.size, 0, none⟩ 32 = some (encH x) := (rowAt_block (a := ⟨w.heap.size, 0, none⟩) (hb.block w.heap.size (by omega)) 32).trans HRX.out
    have hsz := hb.size
    have HB := Lib.hid (H.out.below hbw)
    by_cases hi : i < L.length
    · have hi' : (i : Int) < (L.length : Int) := by omega
      obtain ⟨y, hy⟩ : ∃ y, L[i]? = some y := ⟨L[i], List.getElem?_eq_getElem hi⟩
      obtain ⟨g, o, cap, c1, hry⟩ := HB.out.leaf hy
      have HY := Lib.hid hy; clear hy
      have heq := fun W => eql_H y x W
      have hgd := guard_H
      go_wp2_with fail
      go_quiet (fail)
      by_cases hyx : y = x
      · subst hyx
        have hle := idx_length (L.take i) y
        rw [List.length_take] at hle
        have hwi : IntKind.u64.wrap (i : Int) = (i : Int) := by simp only [IntKind.wrap_u64]; omega
        have HOW2 : Hid ((wr.drewN nq).ownsRow (w.heap.size + 1) 31 1 _ (idx (L.take i) y).length (u64Cells (idx (L.take i) y))) := HOW.out
        have hnqs : (wr.drewN nq).heap.size = wr.heap.size := rfl
        go_wp2_with (at_builtin; refine wpList_append_own_at _ rfl _ _ 36 rfl (w.heap.size + 1) 31 i0 (.int .u64 0) 1 8 Try.underlying36 hi0 hz0 hz1 hz2 rfl (by decide) _ _ _ rfl (HOW2.out.alloc _) ⟨wr.heap.size, 0, none⟩ 1 1 [.int .u64 (i : Int)] rfl rfl (cell_one_new (wr.drewN nq) _ _) ?h1 ?h63 ?hbytes ?hbase ?_)
        case h1 => rfl
        case h63 => unfold maxLen; omega
        case hbytes => omega
        case hbase => simp at hsz ⊢; omega
        intro v' w3 hown' hgrow hnil hloc
        clear hnil hloc
        have hb3 : Below (w.heap.size + 1) (w.alloc (.cells (encH y) 30)) w3 := by
          refine ((show Below (w.heap.size + 1) (w.alloc (.cells (encH y) 30)) (wr.drewN nq) from ⟨hb.os, hb.tape, hb.output, hb.size, hb.block⟩).alloc (by simp at hsz ⊢; omega) _).grown hgrow (by simp at hsz ⊢; omega) (fun k e => ?_)
          rcases HOW2.out.2 with ⟨rfl, _⟩ | ⟨g2, _, _, rfl, h2, _⟩
          · simp [Value.ownBlock] at e
          · simp [Value.ownBlock] at e; omega
        have HO := Lib.hid hown'; clear hown'
        go_wp2_with fail
        go_roundg (gk - 1)
        case measure => have := HG.out; omega
        case rel =>
          refine ⟨i + 1, by simp, by have := HG.out; omega, ?_, hb3⟩
          have hlu : idx (L.take (i + 1)) y = idx (L.take i) y ++ [mk64 i] := by
            rw [take_snoc HY.out, idx_snoc_same, List.length_take, Nat.min_eq_left (by omega)]
          rw [hlu]
          have := HO.out
          simpa [u64Cells, mk64_val (show i < 18446744073709551616 by omega)] using this
      · go_wp2_with fail
        go_roundg (gk - 1)
        case measure => have := HG.out; omega
        case rel =>
          refine ⟨i + 1, by simp, by have := HG.out; omega, ?_, ⟨hb.os, hb.tape, hb.output, hb.size, hb.block⟩⟩
          rw [take_snoc HY.out, idx_snoc_ne _ (fun e => hyx e.symm)]
          exact HOW.out
    · have hi' : ¬ (i : Int) < (L.length : Int) := by omega
      obtain ⟨ad, cap, c1, _, _⟩ := HB.out.slice
      have e := Lib.hid (show i = L.length by have := HG.out; omega)
      go_wp2_with fail
      go_ret
      have := HOW.out
      rw [e.out, List.take_length] at this
      exact ⟨_, rfl, ownsRow_base this (Nat.le_succ _), hbw⟩
def headIs (L : List HB) (y : HB) (i : Nat) : Bool := decide (y ∉ L.take i)
/-- At of leaf i: its first index, and how many. -/
theorem at_leaf {i : Nat} {y : HB} (hL : L.length ≤ 1000000) (hy : L[i]? = some y) : ∃ j r, idx L y = mk64 j :: r ∧ j ≤ i ∧ (decide ((j : Int) = (i : Int))) = headIs L y i ∧ (mk64 j).1 = j := by
  obtain ⟨j, r, h1, h2, h3, h4⟩ := head_idx hy
  have := (List.getElem?_eq_some_iff.1 hy).1
  refine ⟨j, r, h1, h3, ?_, mk64_val (by omega)⟩
  unfold headIs
  rw [decide_eq_decide, ← h4]
  omega
set_option maxRecDepth 100000 in
theorem RFUnlike_any (h : RFAt w rb L G) (hL : L.length ≤ 1000000) : Calls Try.prog 44 #[.pointer (some ⟨rb, 0, none⟩)] w fun e w' =>
    e = .returned (.int .i64 ((firsts L).length : Int)) ∧ Below w.heap.size w w' := by
  have H := Lib.hid h; clear h
  go_enter Try.func44, Try.ntmps44
  go_wp2_with fail
  go_loopg [3, 4] (L.length) (fun g vn vi wr => ∃ (i n : Nat), vi = .int .i64 (i : Nat) ∧ vn = .int .i64 (n : Nat) ∧ g + i = L.length ∧ (firsts (L.take i)).length = n ∧ Below w.heap.size w wr)
  case atStart => exact ⟨0, 0, rfl, rfl, by simp, rfl, Below.refl _ _⟩
  case round =>
    obtain ⟨i, n, rfl, rfl, hg, hn, hb⟩ := hrel
    have HG := Lib.hid hg; clear hg
    have HB := Lib.hid (H.out.below hb)
    have hnl : n ≤ i := by have := firsts_length (L.take i); rw [hn, List.length_take] at this; omega
    have HN := Lib.hid hn; clear hn
    by_cases hi : i < L.length
    · have hi' : (i : Int) < (L.length : Int) := by omega
      obtain ⟨y, hy⟩ : ∃ y, L[i]? = some y := ⟨L[i], List.getElem?_eq_getElem hi⟩
      obtain ⟨g, o, cap, c1, hry⟩ := HB.out.leaf hy
      obtain ⟨j, r, hidx, hji, hjd, hjv⟩ := at_leaf hL hy
      have HY := Lib.hid hy; clear hy
      have hwi : IntKind.u64.wrap (i : Int) = (i : Int) := by simp only [IntKind.wrap_u64]; omega
      go_wp2_with fail
      refine (RFAt_any HB.out hL y).mono ?_
      rintro e w2 ⟨v, rfl, hu, hb2⟩
      rw [hidx] at hu
      obtain ⟨g2, cap2, rfl, hc2⟩ := hu.head
      rw [hjv] at hc2
      have HJ := Lib.hid hjd; clear hjd hu hry hidx
      have hb3 : Below w.heap.size w w2 := hb.trans (hb2.mono hb.size)
      clear hb2
      have hst : firsts (L.take (i + 1)) = if y ∈ L.take i then firsts (L.take i) else firsts (L.take i) ++ [y] := by
        rw [take_snoc HY.out, firsts_snoc]
        simp only [mem_firsts]
      by_cases hf : y ∈ L.take i
      · have hje : ¬ ((j : Int) = (i : Int)) := by have := HJ.out; unfold headIs at this; rw [decide_eq_decide] at this; exact fun e => this.1 e hf
        have hje2 : ((j : Int) == (i : Int)) = false := by simpa using hje
        have HS := Lib.hid (show (firsts (L.take (i + 1))).length = n by rw [hst, if_pos hf]; exact HN.out)
        clear hst
        go_wp2_with fail
        go_roundg (gk - 1)
        case measure => have := HG.out; omega
        case rel => exact ⟨i + 1, n, by simp, rfl, by have := HG.out; omega, HS.out, hb3⟩
      · have hje : (j : Int) = (i : Int) := by have := HJ.out; unfold headIs at this; rw [decide_eq_decide] at this; exact this.2 hf
        have hje2 : ((j : Int) == (i : Int)) = true := by simpa using hje
        have HS := Lib.hid (show (firsts (L.take (i + 1))).length = n + 1 by rw [hst, if_neg hf]; simp [HN.out])
        clear hst
        go_wp2_with fail
        go_roundg (gk - 1)
        case measure => have := HG.out; omega
        case rel => exact ⟨i + 1, n + 1, by simp, by simp, by have := HG.out; omega, HS.out, hb3⟩
    · have hi' : ¬ (i : Int) < (L.length : Int) := by omega
      obtain ⟨ad, cap, c1, _, _⟩ := HB.out.slice
      have e := Lib.hid (show i = L.length by have := HG.out; omega)
      go_wp2_with fail
      go_ret
      have := HN.out
      rw [e.out, List.take_length] at this
      rw [this]
      exact ⟨rfl, hb⟩
end
end Go.Proofs.Ytoigddekipjkcaa
