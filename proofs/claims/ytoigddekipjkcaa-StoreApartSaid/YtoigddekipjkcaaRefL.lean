/- massifref5.Store's methods that go over all nodes. -/
import Derived.Test.YtoigddekipjkcaaRefT
import Derived.Test.YtoigddekipjkcaaNums
namespace Go.Proofs.Ytoigddekipjkcaa
set_option linter.all false
open Go Go.RowKit Go.Proofs Go.Maps
/-- What lives ahead of a place. -/
def liveUp (L : List NL) (i : Nat) : List PH := (List.range i).filterMap (livePart L)
theorem liveUp_all (L : List NL) : liveUp L L.length = liveL L := rfl
theorem liveUp_live {L : List NL} {i : Nat} {h : HB} (hx : (L[i]?).bind (·.1) = some h) : liveUp L (i + 1) = liveUp L i ++ [(mk64 i, h)] := by
  unfold liveUp; rw [List.range_succ, List.filterMap_append]; simp [livePart, hx]
theorem liveUp_dead {L : List NL} {i : Nat} (hx : (L[i]?).bind (·.1) = none) : liveUp L (i + 1) = liveUp L i := by
  unfold liveUp; rw [List.range_succ, List.filterMap_append]; simp [livePart, hx]
theorem liveUp_le (L : List NL) (i : Nat) : (liveUp L i).length ≤ i := by
  unfold liveUp; have := List.length_filterMap_le (livePart L) (List.range i); simpa using this
theorem liveUp_lt {L : List NL} {i : Nat} {x : PH} (h : x ∈ liveUp L i) (hi : i ≤ 1000000) : x.1.1 < i := by
  unfold liveUp at h
  obtain ⟨p, hp, he⟩ := List.mem_filterMap.1 h
  have hp' := List.mem_range.1 hp
  unfold livePart at he
  cases hb : (L[p]?).bind (·.1) with
  | none => rw [hb] at he; cases he
  | some y =>
    rw [hb] at he
    have : (mk64 p, y) = x := by simpa using he
    rw [← this]; show (mk64 p).1 < i; rw [mk64_val (by omega)]; exact hp'
theorem cntL_take {L : List NL} {i : Nat} {x : NL} (hx : L[i]? = some x) : cntL (L.take (i + 1)) = cntL (L.take i) + if x.1.isSome then 1 else 0 := by
  rw [List.take_add_one, hx, cntL_append]
  congr 1
  simp only [cntL, Option.toList, List.filter_cons, List.filter_nil]
  split <;> rfl
section
variable {w : World} {rb log : Nat} {L : List NL} {G : Nat → Prop}
set_option maxRecDepth 100000 in
theorem RAlive_any (h : RefAt w rb log L G) (hL : L.length ≤ 1000000) : Calls Try.prog 76 #[.pointer (some ⟨rb, 0, none⟩)] w fun e w' => e = .returned (.int .u64 (cntL L : Int)) ∧ w = w' := by
  obtain ⟨ad, cap, c1, _, _⟩ := h.slice
  have H := Lib.hid h; clear h
  go_enter Try.func76, Try.ntmps76
  go_wp2_with fail
  go_loopg [3, 4] (L.length) (fun g vc vi wr => ∃ i, vi = .int .i64 (i : Nat) ∧ g + i = L.length ∧ vc = .int .u64 (cntL (L.take i) : Int) ∧ wr = w)
  case atStart => exact ⟨0, rfl, by simp, rfl, rfl⟩
  case round =>
    obtain ⟨i, rfl, hg, rfl, rfl⟩ := hrel
    have HG := Lib.hid hg; clear hg
    obtain ⟨c, hc⟩ : ∃ c, cntL (L.take i) = c := ⟨_, rfl⟩
    have hcl : c ≤ i := by have := cntL_le (L.take i); rw [hc, List.length_take] at this; omega
    rw [hc]
    have HC := Lib.hid hc; clear hc
    by_cases hi : i < L.length
    · have hi' : (i : Int) < (L.length : Int) := by omega
      obtain ⟨⟨x, k⟩, hx⟩ : ∃ x, L[i]? = some x := ⟨L[i], List.getElem?_eq_getElem hi⟩
      obtain ⟨g, cap2, cur, N⟩ := H.out.node hx
      have e1 := c1.symm.trans (cell_of N.own)
      obtain ⟨rfl, rfl⟩ : ad = some ⟨g, 0, none⟩ ∧ cap = cap2 := by simp at e1; exact e1
      have hlv := N.live
      have HN := Lib.hid (cntL_take hx)
      clear N e1 hx
      cases x with
      | none =>
        go_wp2_with fail
        go_roundg (gk - 1)
        case measure => have := HG.out; omega
        case rel => exact ⟨i + 1, by simp, by have := HG.out; omega, by rw [HN.out, HC.out]; rfl, rfl⟩
      | some y =>
        go_wp2_with fail
        go_roundg (gk - 1)
        case measure => have := HG.out; omega
        case rel => exact ⟨i + 1, by simp, by have := HG.out; omega, by rw [HN.out, HC.out]; simp, rfl⟩
    · have hi' : ¬ (i : Int) < (L.length : Int) := by omega
      have e := Lib.hid (show i = L.length by have := HG.out; omega)
      go_wp2_with fail
      go_ret
      refine ⟨?_, rfl⟩
      have := HC.out
      rw [e.out, List.take_length] at this
      rw [this]; rfl
set_option maxRecDepth 100000 in
theorem RPlaces_any (h : RefAt w rb log L G) (hL : L.length ≤ 1000000) : Calls Try.prog 78 #[.pointer (some ⟨rb, 0, none⟩)] w fun e w' =>
    ∃ v, e = .returned v ∧ w'.ownsRow w.heap.size 31 1 v ((liveL L).map (·.1)).length (u64Cells ((liveL L).map (·.1))) ∧ Below w.heap.size w w' := by
  have H := Lib.hid h; clear h
  obtain ⟨i0, hi0, hz0, hz1, hz2⟩ := info_parts infoU64
  go_enter Try.func78, Try.ntmps78
  go_wp2_with fail
  go_loopg [3, 4] (L.length) (fun g vl vi wr => ∃ i, vi = .int .i64 (i : Nat) ∧ g + i = L.length ∧ wr.ownsRow w.heap.size 31 1 vl (liveUp L i).length (u64Cells ((liveUp L i).map (·.1))) ∧ Below w.heap.size w wr)
  case atStart => exact ⟨0, rfl, by simp, World.ownsRow_nil _ _ _ _, Below.refl _ _⟩
  case round =>
    obtain ⟨i, rfl, hg, hown, hb⟩ := hrel
    have HG := Lib.hid hg; clear hg
    have HOW := Lib.hid hown; clear hown
    have HB := Lib.hid (H.out.below hb)
    obtain ⟨ad, cap, c1, _, _⟩ := HB.out.slice
    by_cases hi : i < L.length
    · have hi' : (i : Int) < (L.length : Int) := by omega
      obtain ⟨⟨x, k⟩, hx⟩ : ∃ x, L[i]? = some x := ⟨L[i], List.getElem?_eq_getElem hi⟩
      obtain ⟨g, cap2, cur, N⟩ := HB.out.node hx
      have e1 := c1.symm.trans (cell_of N.own)
      obtain ⟨rfl, rfl⟩ : ad = some ⟨g, 0, none⟩ ∧ cap = cap2 := by simp at e1; exact e1
      have hlv := N.live
      have HX := Lib.hid hx
      clear N e1 hx
      cases x with
      | none =>
        go_wp2_with fail
        go_roundg (gk - 1)
        case measure => have := HG.out; omega
        case rel => exact ⟨i + 1, by simp, by have := HG.out; omega, by rw [liveUp_dead (by rw [HX.out]; rfl)]; exact HOW.out, hb⟩
      | some y =>
        have hle := liveUp_le L i
        have hsz := hb.size
        have hwi : IntKind.u64.wrap (i : Int) = (i : Int) := by simp only [IntKind.wrap_u64]; omega
        go_wp2_with (at_builtin; refine wpList_append_own_at _ rfl _ _ 36 rfl w.heap.size 31 i0 (.int .u64 0) 1 8 Try.underlying36 hi0 hz0 hz1 hz2 rfl (by decide) _ _ _ rfl (HOW.out.alloc _) ⟨wr.heap.size, 0, none⟩ 1 1 [.int .u64 (i : Int)] rfl rfl ?hnews ?h1 ?h63 ?hbytes ?hbase ?_)
        case h1 => rfl
        case h63 => unfold maxLen; omega
        case hbytes => omega
        case hbase => omega
        intro v' w3 hown' hgrow hnil hloc
        clear hnil hloc
        have hb3 : Below w.heap.size w w3 := by
          refine (hb.alloc hb.size _).grown hgrow (by simp; omega) (fun k e => ?_)
          rcases HOW.out.2 with ⟨rfl, _⟩ | ⟨g2, _, _, rfl, h2, _⟩
          · simp [Value.ownBlock] at e
          · simp [Value.ownBlock] at e; omega
        have HO := Lib.hid hown'; clear hown'
        go_wp2_with fail
        go_roundg (gk - 1)
        case measure => have := HG.out; omega
        case rel =>
          refine ⟨i + 1, by simp, by have := HG.out; omega, ?_, hb3⟩
          have hlu := liveUp_live (L := L) (i := i) (h := y) (by rw [HX.out]; rfl)
          rw [hlu]
          have := HO.out
          simpa [u64Cells, mk64_val (show i < 18446744073709551616 by omega)] using this
    · have hi' : ¬ (i : Int) < (L.length : Int) := by omega
      have e := Lib.hid (show i = L.length by have := HG.out; omega)
      go_wp2_with fail
      go_ret
      refine ⟨_, rfl, ?_, hb⟩
      have := HOW.out
      rw [e.out, liveUp_all] at this
      exact this
end
end Go.Proofs.Ytoigddekipjkcaa
