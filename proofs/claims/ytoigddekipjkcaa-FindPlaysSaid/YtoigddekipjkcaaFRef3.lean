/- massifref22.Find: Twice; massifref7.SameNumbers, SameHashes. -/
import Derived.Test.YtoigddekipjkcaaFRef2
namespace Go.Proofs.Ytoigddekipjkcaa
set_option linter.all false
open Go Go.RowKit Go.Proofs Go.Maps
open Go.ChangeMaps (setBlock)
def twiceUp (L : List HB) (i : Nat) : List HB := (firsts (L.take i)).filter (isTwice L)
theorem twiceUp_le (L : List HB) (i : Nat) : (twiceUp L i).length ≤ i := by
  have h1 := List.length_filter_le (isTwice L) (firsts (L.take i))
  have h2 := firsts_length (L.take i)
  rw [List.length_take] at h2
  unfold twiceUp; omega
theorem twiceUp_all (L : List HB) : twiceUp L L.length = twice L := by unfold twiceUp twice; rw [List.take_length]
theorem twiceUp_in {L : List HB} {i : Nat} {y : HB} (hy : L[i]? = some y) (hf : y ∈ L.take i) : twiceUp L (i + 1) = twiceUp L i := by
  unfold twiceUp; rw [take_snoc hy, firsts_snoc, if_pos ((mem_firsts _ _).2 hf)]
theorem twiceUp_one {L : List HB} {i : Nat} {y : HB} (hy : L[i]? = some y) (hl : ¬ 1 < (idx L y).length) : twiceUp L (i + 1) = twiceUp L i := by
  unfold twiceUp; rw [take_snoc hy, firsts_snoc]
  split
  · rfl
  · rw [List.filter_append, List.filter_cons_of_neg (by unfold isTwice; simpa using hl)]; simp
theorem twiceUp_new {L : List HB} {i : Nat} {y : HB} (hy : L[i]? = some y) (hf : y ∉ L.take i) (hl : 1 < (idx L y).length) : twiceUp L (i + 1) = twiceUp L i ++ [y] := by
  unfold twiceUp; rw [take_snoc hy, firsts_snoc, if_neg (fun h => hf ((mem_firsts _ _).1 h)), List.filter_append, List.filter_cons_of_pos (by unfold isTwice; simpa using hl)]; simp
section
variable {w : World} {rb : Nat} {L : List HB} {G : Nat → Prop}
set_option maxRecDepth 100000 in
theorem RFTwice_any (h : RFAt w rb L G) (hL : L.length ≤ 1000000) : Calls Try.prog 41 #[.pointer (some ⟨rb, 0, none⟩)] w fun e w' =>
    ∃ v, e = .returned v ∧ HOwn w' w.heap.size v (twice L) ∧ Below w.heap.size w w' := by
  have H := Lib.hid h; clear h
  obtain ⟨i0, hi0, hz0, hz1, hz2⟩ := info_parts infoH
  go_enter Try.func41, Try.ntmps41
  go_wp2_with fail
  go_loopg [3, 4] (L.length) (fun g vl vi wr => ∃ i, vi = .int .i64 (i : Nat) ∧ g + i = L.length ∧ HOwn wr w.heap.size vl (twiceUp L i) ∧ Below w.heap.size w wr)
  case atStart => exact ⟨0, rfl, by simp, World.ownsRow_nil _ _ _ _, Below.refl _ _⟩
  case round =>
    obtain ⟨i, rfl, hg, hown, hb⟩ := hrel
    have HG := Lib.hid hg; clear hg
    have HOW := Lib.hid hown; clear hown
    have HB := Lib.hid (H.out.below hb)
    by_cases hi : i < L.length
    · have hi' : (i : Int) < (L.length : Int) := by omega
      obtain ⟨y, hy⟩ : ∃ y, L[i]? = some y := ⟨L[i], List.getElem?_eq_getElem hi⟩
      obtain ⟨g, o, cap, c1, hry⟩ := HB.out.leaf hy
      obtain ⟨j, r, hidx, hji, hjd, hjv⟩ := at_leaf hL hy
      have HY := Lib.hid hy; clear hy
      have hwi : IntKind.u64.wrap (i : Int) = (i : Int) := by simp only [IntKind.wrap_u64]; omega
      go_wp2_with fail
      refine (RFAt_any HB.out hL y).mono ?_
      rintro e w2 ⟨v, rfl, hu, hb2⟩
      rw [hidx] at hu
      obtain ⟨g2, cap2, rfl, hc2⟩ := hu.head
      rw [hjv] at hc2
      have HJ := Lib.hid hjd; clear hjd hu hry
      have hb3 : Below w.heap.size w w2 := hb.trans (hb2.mono hb.size)
      have hil := idx_length L y
      rw [hidx] at hil
      simp only [List.length_cons] at hil
      have HIX := Lib.hid (show (idx L y).length = r.length + 1 by rw [hidx]; rfl)
      have HOW2 : Hid (HOwn w2 w.heap.size _ (twiceUp L i)) := HOW.out.same (fun j hj => hb2.block j (ownsRow_lt HOW.out hj).1)
      clear hidx
      by_cases hf : y ∈ L.take i
      · have hje : ¬ ((j : Int) = (i : Int)) := by have := HJ.out; unfold headIs at this; rw [decide_eq_decide] at this; exact fun e => this.1 e hf
        have hje2 : ((j : Int) == (i : Int)) = false := by simpa using hje
        have HS := Lib.hid (twiceUp_in HY.out hf)
        clear hb2
        go_wp2_with fail
        go_roundg (gk - 1)
        case measure => have := HG.out; omega
        case rel => exact ⟨i + 1, by simp, by have := HG.out; omega, by rw [HS.out]; exact HOW2.out, hb3⟩
      · have hje : (j : Int) = (i : Int) := by have := HJ.out; unfold headIs at this; rw [decide_eq_decide] at this; exact this.2 hf
        have hje2 : ((j : Int) == (i : Int)) = true := by simpa using hje
        by_cases hr : r.length = 0
        · have hr1 : ¬ ((1 : Int) < (r.length : Int) + 1) := by omega
          have HS := Lib.hid (twiceUp_one HY.out (by rw [HIX.out]; omega))
          clear hb2
          go_wp2_with fail
          go_roundg (gk - 1)
          case measure => have := HG.out; omega
          case rel => exact ⟨i + 1, by simp, by have := HG.out; omega, by rw [HS.out]; exact HOW2.out, hb3⟩
        · have hr1 : (1 : Int) < (r.length : Int) + 1 := by omega
          have hr2 : 0 < r.length := by omega
          have HS := Lib.hid (twiceUp_new HY.out hf (by rw [HIX.out]; omega))
          obtain ⟨g3, o3, cap3, c3, hry3⟩ := (HB.out.below hb2).leaf HY.out
          have hle := twiceUp_le L i
          have hs2 := hb3.size
          clear hb2 c1
          go_wp2_with (at_builtin; refine wpList_append_own_at _ rfl _ _ 26 rfl w.heap.size 30 i0 (.agg (encH zH)) 32 32 Try.underlying26 hi0 hz0 hz1 hz2 (size_encH _) (by decide) _ _ _ rfl (HOW2.out.alloc _) ⟨w2.heap.size, 0, none⟩ 1 1 (encH y).toList rfl (length_encH y) ?hnews ?h1 ?h63 ?hbytes ?hbase ?_)
          case hnews =>
            intro j u hj
            rw [Addr.add_lit, Nat.zero_add, cell_of (hb_new w2 _)]
            simpa using hj
          case h1 => intro u hu; have := one_encH y; unfold oneCells at this; rw [List.all_eq_true] at this; exact this u hu
          case h63 => unfold maxLen; omega
          case hbytes => omega
          case hbase => simp; omega
          intro v' w3 hown' hgrow hnil hloc
          clear hnil hloc
          have hb4 : Below w.heap.size w w3 := by
            refine (hb3.alloc hb3.size _).grown hgrow (by simp; omega) (fun k e => ?_)
            exact (ownsRow_lt HOW2.out e).2
          have HO := Lib.hid hown'; clear hown'
          go_wp2_with fail
          go_roundg (gk - 1)
          case measure => have := HG.out; omega
          case rel =>
            refine ⟨i + 1, by simp, by have := HG.out; omega, ?_, hb4⟩
            rw [HS.out]
            have := HO.out
            unfold HOwn
            rw [rowH_append, rowH_one, List.length_append, List.length_singleton]
            exact this
    · have hi' : ¬ (i : Int) < (L.length : Int) := by omega
      obtain ⟨ad, cap, c1, _, _⟩ := HB.out.slice
      have e := Lib.hid (show i = L.length by have := HG.out; omega)
      go_wp2_with fail
      go_ret
      have := HOW.out
      rw [e.out, twiceUp_all] at this
      exact ⟨_, rfl, this, hb⟩
end
set_option maxRecDepth 100000 in
theorem SameNumbers_any (w : World) (a b : Value) (ks : List U64) (ha : NumRow w a ks) (hb : NumRow w b ks) (hl : ks.length ≤ 1000000) : Calls Try.prog 39 #[a, b] w fun e w' => e = .returned (.bool true) ∧ Below w.heap.size w w' := by
  obtain ⟨ada, capa, rfl, ra⟩ := ha
  obtain ⟨adb, capb, rfl, rb⟩ := hb
  have RA := Lib.hid ra; clear ra
  have RB := Lib.hid rb; clear rb
  go_enter Try.func39, Try.ntmps39
  go_wp2_with fail
  go_loopg [5] (ks.length) (fun g vi wr => ∃ i n, vi = .int .i64 (i : Nat) ∧ g + i = ks.length ∧ wr = w.drewN n)
  case atStart => exact ⟨0, 0, rfl, by simp, rfl⟩
  case round =>
    obtain ⟨i, n, rfl, hg, rfl⟩ := hrel
    have HG := Lib.hid hg; clear hg
    by_cases hi : i < ks.length
    · have hi' : (i : Int) < (ks.length : Int) := by omega
      obtain ⟨k, hk⟩ : ∃ k, ks[i]? = some k := ⟨ks[i], List.getElem?_eq_getElem hi⟩
      obtain ⟨b1, o1, rfl, c1⟩ := RA.out i k hk
      obtain ⟨b2, o2, rfl, c2⟩ := RB.out i k hk
      clear hk
      go_wp2_with fail
      go_quiet (fail)
      go_wp2_with fail
      go_roundg (gk - 1)
      case measure => have := HG.out; omega
      case rel => exact ⟨i + 1, _, by simp, by have := HG.out; omega, rfl⟩
    · have hi' : ¬ (i : Int) < (ks.length : Int) := by omega
      go_wp2_with fail
      go_ret
      exact ⟨rfl, ⟨rfl, rfl, rfl, Nat.le_refl _, fun _ _ => rfl⟩⟩
set_option maxRecDepth 100000 in
theorem SameHashes_any (w : World) (a b : Value) (hs : List HB) (ha : HashRow w a hs) (hb : HashRow w b hs) (hl : hs.length ≤ 1000000) : Calls Try.prog 43 #[a, b] w fun e w' => e = .returned (.bool true) ∧ Below w.heap.size w w' := by
  obtain ⟨ada, capa, rfl, ra⟩ := ha
  obtain ⟨adb, capb, rfl, rb⟩ := hb
  have RA := Lib.hid ra; clear ra
  have RB := Lib.hid rb; clear rb
  go_enter Try.func43, Try.ntmps43
  go_wp2_with fail
  go_loopg [5] (hs.length) (fun g vi wr => ∃ i n, vi = .int .i64 (i : Nat) ∧ g + i = hs.length ∧ wr = w.drewN n)
  case atStart => exact ⟨0, 0, rfl, by simp, rfl⟩
  case round =>
    obtain ⟨i, n, rfl, hg, rfl⟩ := hrel
    have HG := Lib.hid hg; clear hg
    by_cases hi : i < hs.length
    · have hi' : (i : Int) < (hs.length : Int) := by omega
      obtain ⟨x, hx⟩ : ∃ k, hs[i]? = some k := ⟨hs[i], List.getElem?_eq_getElem hi⟩
      obtain ⟨b1, o1, rfl, c1⟩ := RA.out i x hx
      obtain ⟨b2, o2, rfl, c2⟩ := RB.out i x hx
      clear hx
      have heq := fun W => neq_H x x W
      have hgd := guard_H
      go_wp2_with fail
      go_quiet (fail)
      go_wp2_with fail
      go_roundg (gk - 1)
      case measure => have := HG.out; omega
      case rel => exact ⟨i + 1, _, by simp, by have := HG.out; omega, rfl⟩
    · have hi' : ¬ (i : Int) < (hs.length : Int) := by omega
      go_wp2_with fail
      go_ret
      exact ⟨rfl, ⟨rfl, rfl, rfl, Nat.le_refl _, fun _ _ => rfl⟩⟩
end Go.Proofs.Ytoigddekipjkcaa
