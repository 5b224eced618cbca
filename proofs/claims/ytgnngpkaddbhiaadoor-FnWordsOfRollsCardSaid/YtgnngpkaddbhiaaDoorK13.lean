-- Packed by this work's pack.py. Not trusted: Lean checks it.
import Derived.Deep.CutRange
import Derived.Deep.RegionWith
import Derived.Test.YtgnngpkaddbhiaaDoorK12
namespace Go.Proofs.YtgnngpkaddbhiaaDoor.P
open Go.RowKit Go.Proofs.YtgnngpkaddbhiaaDoorW.PrintWords Go.Proofs.YtgnngpkaddbhiaaDoorW.PrintLast Go.Proofs.YtgnngpkaddbhiaaDoorW.PrintMore
attribute [local go_sem] max2_int min2_int max_two min_two max_three min_three max_four min_four
set_option linter.unusedVariables false
set_option linter.unusedSimpArgs false
attribute [local go_sem high] eqA42
def impl_OrderOfRolls.l0 : Nat → Nat → ByteArray → Int → Int × Int × Int × Int × Int × Int → Option (Int × Bool)
  | 0, _, _, _, _ => none
  | k + 1, kk, a0, n, d => if d = (0, 1, 2, 3, 4, 5) then some (n, true) else (impl_Die_rolled.f kk d.1 d.2.1 d.2.2.1 d.2.2.2.1 d.2.2.2.2.1 d.2.2.2.2.2 a0).bind fun e => impl_OrderOfRolls.l0 k kk a0 (n + 1) e
def impl_OrderOfRolls.f (k : Nat) (a0 : ByteArray) : Option (Int × Bool) := (impl_IsRolls.f a0).bind fun t => if t = true then ((impl_Die_rolled.f k 0 1 2 3 4 5 a0).bind fun e => impl_OrderOfRolls.l0 7 k a0 1 e) else some (0, false)
theorem put6 {w : World} {g : Nat} {t : TypeId} {c0 c1 c2 c3 c4 c5 : Value} (h : w.heap[g]? = some (.cells #[c0, c1, c2, c3, c4, c5] t (0, 0))) (x0 x1 x2 x3 x4 x5 : Value) :
    ((((((w.setCell ⟨g, 0, none⟩ x0).setCell ⟨g, 1, none⟩ x1).setCell ⟨g, 2, none⟩ x2).setCell ⟨g, 3, none⟩ x3).setCell ⟨g, 4, none⟩ x4).setCell ⟨g, 5, none⟩ x5).heap[g]? = some (.cells #[x0, x1, x2, x3, x4, x5] t (0, 0)) :=
  blk_put (blk_put (blk_put (blk_put (blk_put (blk_put h 0 x0 rfl) 1 x1 rfl) 2 x2 rfl) 3 x3 rfl) 4 x4 rfl) 5 x5 rfl
theorem below6 {B : Nat} {w0 w : World} (h : Below B w0 w) {g : Nat} (hg : B ≤ g) (x0 x1 x2 x3 x4 x5 : Value) :
    Below B w0 ((((((w.setCell ⟨g, 0, none⟩ x0).setCell ⟨g, 1, none⟩ x1).setCell ⟨g, 2, none⟩ x2).setCell ⟨g, 3, none⟩ x3).setCell ⟨g, 4, none⟩ x4).setCell ⟨g, 5, none⟩ x5) :=
  (((((h.setCell hg _).setCell hg _).setCell hg _).setCell hg _).setCell hg _).setCell hg _
theorem impl_OrderOfRolls.mono_l (a0 : ByteArray) (kk : Nat) : ∀ k n d, LeO (impl_OrderOfRolls.l0 k kk a0 n d) (impl_OrderOfRolls.l0 k (kk + 1) a0 n d)
  | 0, _, _ => fun r h => by simp [impl_OrderOfRolls.l0] at h
  | k + 1, n, d => by
    unfold impl_OrderOfRolls.l0
    exact LeO.ite (LeO.refl _) (LeO.bind (impl_Die_rolled.mono _ _ _ _ _ _ _ _) (fun _ => impl_OrderOfRolls.mono_l a0 kk k _ _))
theorem impl_OrderOfRolls.mono : ∀ a0 k, LeO (impl_OrderOfRolls.f k a0) (impl_OrderOfRolls.f (k + 1) a0) := fun a0 k => by
  unfold impl_OrderOfRolls.f
  exact LeO.bind (LeO.refl _) (fun _ => LeO.ite (LeO.bind (impl_Die_rolled.mono _ _ _ _ _ _ _ _) (fun _ => impl_OrderOfRolls.mono_l _ _ _ _ _)) (LeO.refl _))
set_option maxHeartbeats 4000000 in
set_option maxRecDepth 100000 in
theorem impl_OrderOfRolls.calls (k : Nat) (a0 : ByteArray) (r1 : Int) (r2 : Bool) (w : World) (h : impl_OrderOfRolls.f k a0 = some (r1, r2)) :
    Calls Tryd.prog 13 #[.string a0] w fun e w' => e = .returned (.tuple #[.int .i64 r1, .bool r2]) ∧ Below w.heap.size w w' := by
  have hu := Tryd.underlying42
  have HP : Aside0 (impl_plain.f = some (0, 1, 2, 3, 4, 5)) := ⟨by simp [impl_plain.f]⟩
  unfold impl_OrderOfRolls.f at h
  obtain ⟨t, h1, h2⟩ := Option.bind_eq_some_iff.mp h
  have H1 := Aside0.mk h1
  clear h h1
  cases t with
  | false =>
    rw [if_neg (by simp)] at h2
    injection h2 with h2
    injection h2 with h2 h3
    subst h2 h3
    go_enter Tryd.func13, Tryd.ntmps13
    go_wp2_with (go_at_call 18; (with_reducible refine (impl_IsRolls.calls _ _ _ H1.out).mono ?_); rintro e w1 ⟨rfl, hb⟩; have HB := Aside0.mk hb; clear hb)
    go_ret2
    exact ⟨rfl, HB.out⟩
  | true =>
    rw [if_pos rfl] at h2
    obtain ⟨d, h3, h4⟩ := Option.bind_eq_some_iff.mp h2
    have HR := Aside0.mk h3
    have H4 := Aside0.mk h4
    clear h2 h3 h4
    go_enter Tryd.func13, Tryd.ntmps13
    go_wp2_with (first | (go_at_call 18; (with_reducible refine (impl_IsRolls.calls _ _ _ H1.out).mono ?_); rintro e w1 ⟨rfl, hb⟩; have HB := Aside0.mk hb; clear hb) | (go_at_call 30; (with_reducible refine (impl_plain.calls _ _ _ _ _ _ _ HP.out).mono ?_); rintro e w4 ⟨rfl, hb⟩; have HB3 := Aside0.mk (below_step HB.out hb); clear HB hb) | (go_at_call 31; (with_reducible refine (impl_Die_rolled.calls _ _ _ _ _ _ _ _ _ _ _ _ _ _ _ HR.out).mono ?_); rintro e w5 ⟨rfl, hb⟩; have HB4 := Aside0.mk (below_step HB3.out hb); clear HB3 hb))
    go_loopg [4, 5] 7 (fun kq v4 v5 w' => ∃ (n : Nat) (d : Int × Int × Int × Int × Int × Int) (gb : Nat), v4 = .int .i64 n ∧ v5 = .pointer (some ⟨gb, 0, none⟩) ∧ Aside0 (w'.heap[gb]? = some (.cells #[.int .i64 d.1, .int .i64 d.2.1, .int .i64 d.2.2.1, .int .i64 d.2.2.2.1, .int .i64 d.2.2.2.2.1, .int .i64 d.2.2.2.2.2] 42 (0, 0))) ∧ Aside0 (impl_OrderOfRolls.l0 kq k a0 n d = some (r1, r2)) ∧ Aside0 (n + kq ≤ 8) ∧ Aside0 (Below w.heap.size w w'))
    case atStart => exact ⟨1, d, w5.heap.size, rfl, rfl, ⟨blk_new _ _⟩, H4, ⟨by omega⟩, ⟨below_alloc HB4.out _⟩⟩
    case round =>
      clear H4 HB4 HR
      obtain ⟨n, d, gb, rfl, rfl, BK, HA, HN, HB⟩ := hrel
      cases gk with
      | zero => exact absurd HA.out (by simp [impl_OrderOfRolls.l0])
      | succ k1 =>
      obtain ⟨d0, d1, d2, d3, d4, d5⟩ := d
      have H := HA.out
      clear HA
      simp only [impl_OrderOfRolls.l0] at H
      have hc0 := (blk_cell BK.out 0).trans rfl
      have hc1 := (blk_cell BK.out 1).trans rfl
      have hc2 := (blk_cell BK.out 2).trans rfl
      have hc3 := (blk_cell BK.out 3).trans rfl
      have hc4 := (blk_cell BK.out 4).trans rfl
      have hc5 := (blk_cell BK.out 5).trans rfl
      by_cases hd : (d0, d1, d2, d3, d4, d5) = ((0, 1, 2, 3, 4, 5) : Int × Int × Int × Int × Int × Int)
      · rw [if_pos hd] at H
        simp only [Prod.mk.injEq] at hd
        obtain ⟨rfl, rfl, rfl, rfl, rfl, rfl⟩ := hd
        injection H with H
        injection H with H3 H4
        subst H3 H4
        go_upto_region 5 with fail
        go_region_with (go_at_call 30; (with_reducible refine (impl_plain.calls _ _ _ _ _ _ _ HP.out).mono ?_); rintro e w4 ⟨rfl, hb⟩; have BK2 := Aside0.mk (blk_below (blk_drew BK.out) hb); have HB2 := Aside0.mk (below_step (below_drew1 HB.out) hb); have hd0 := (blk_cell BK2.out 0).trans rfl; have hd1 := (blk_cell BK2.out 1).trans rfl; have hd2 := (blk_cell BK2.out 2).trans rfl; have hd3 := (blk_cell BK2.out 3).trans rfl; have hd4 := (blk_cell BK2.out 4).trans rfl; have hd5 := (blk_cell BK2.out 5).trans rfl; clear hb)
        all_goals
          go_wp2
          go_ret2
          exact ⟨rfl, HB2.out⟩
      · rw [if_neg hd] at H
        have hq : (d0 == 0 && (d1 == 1 && (d2 == 2 && (d3 == 3 && (d4 == 4 && d5 == 5))))) = false := by
          rw [Bool.eq_false_iff]
          intro h
          simp only [Bool.and_eq_true, beq_iff_eq] at h
          exact hd (by simp [h])
        clear hd
        obtain ⟨e, h5, h6⟩ := Option.bind_eq_some_iff.mp H
        have HR := Aside0.mk h5
        have H6 := Aside0.mk h6
        clear H h5 h6
        go_upto_region 5 with fail
        go_region_with (go_at_call 30; (with_reducible refine (impl_plain.calls _ _ _ _ _ _ _ HP.out).mono ?_); rintro e w4 ⟨rfl, hb⟩; have BK2 := Aside0.mk (blk_below (blk_drew BK.out) hb); have HB2 := Aside0.mk (below_step (below_drew1 HB.out) hb); have hd0 := (blk_cell BK2.out 0).trans rfl; have hd1 := (blk_cell BK2.out 1).trans rfl; have hd2 := (blk_cell BK2.out 2).trans rfl; have hd3 := (blk_cell BK2.out 3).trans rfl; have hd4 := (blk_cell BK2.out 4).trans rfl; have hd5 := (blk_cell BK2.out 5).trans rfl; clear hb)
        all_goals
          clear hc0 hc1 hc2 hc3 hc4 hc5
          show _
          go_wp2_with (go_at_call 31; (with_reducible refine (impl_Die_rolled.calls _ _ _ _ _ _ _ _ _ _ _ _ _ _ _ HR.out).mono ?_); rintro e w5 ⟨rfl, hb⟩; have HB4 := Aside0.mk (below_step (below_alloc HB2.out _) hb); have BK5 := Aside0.mk (blk_below (blk_new w4 _) hb); have hw4 := below_size HB2.out; clear hd0 hd1 hd2 hd3 hd4 hd5 hb; have hf0 := blk_frozen BK5.out 0; have hf1 := blk_frozen BK5.out 1; have hf2 := blk_frozen BK5.out 2; have hf3 := blk_frozen BK5.out 3; have hf4 := blk_frozen BK5.out 4; have hf5 := blk_frozen BK5.out 5; have hd0 := (blk_cell BK5.out 0).trans rfl; have hd1 := (blk_cell BK5.out 1).trans rfl; have hd2 := (blk_cell BK5.out 2).trans rfl; have hd3 := (blk_cell BK5.out 3).trans rfl; have hd4 := (blk_cell BK5.out 4).trans rfl; have hd5 := (blk_cell BK5.out 5).trans rfl)
          go_roundg k1
          case measure => omega
          case rel => exact ⟨n + 1, e, _, by have h9 := HN.out; first | (go_num; done) | (congr 1; unfold wrap64; omega), rfl, ⟨put6 BK5.out _ _ _ _ _ _⟩, ⟨by simpa using H6.out⟩, ⟨by have := HN.out; omega⟩, ⟨below6 HB4.out hw4 _ _ _ _ _ _⟩⟩
end Go.Proofs.YtgnngpkaddbhiaaDoor.P

namespace Go.Proofs.YtgnngpkaddbhiaaDoor.P
open Go.RowKit Go.Proofs.YtgnngpkaddbhiaaDoorW.PrintWords Go.Proofs.YtgnngpkaddbhiaaDoorW.PrintLast Go.Proofs.YtgnngpkaddbhiaaDoorW.PrintMore
attribute [local go_sem] max2_int min2_int max_two min_two max_three min_three max_four min_four
set_option linter.unusedVariables false
set_option linter.unusedSimpArgs false
attribute [local go_sem high] eqA42
mutual
def laws_FnWordsOfRolls.j1 : Nat → List Int → Option (Bool)
  | 0, _ => none
  | k + 1, x1 => (spec_DrawAreSameRolls.f k x1).bind fun bt137 => ((impl_AreSameRolls.f k bt137.1 bt137.2).bind fun bt139 => ((spec_AreSameRolls.f k bt137.1 bt137.2).bind fun bt141 => (if (bt139.2 != bt141.2) = true then (none) else (if (bt139.1 != bt141.1) = true then (none) else (if bt139.2 = true then ((laws_jUnit.f).bind fun bt143 => ((impl_RollWord.f k bt143.1 bt143.2.1 bt143.2.2.1 bt143.2.2.2.1 bt143.2.2.2.2.1 bt143.2.2.2.2.2 bt137.1).bind fun bt149 => ((laws_jUnit.f).bind fun bt157 => ((impl_RollWord.f k bt157.1 bt157.2.1 bt157.2.2.1 bt157.2.2.2.1 bt157.2.2.2.2.1 bt157.2.2.2.2.2 bt137.2).bind fun bt163 => ((impl_ShortestRolls.f k bt137.1).bind fun bt171 => ((impl_ShortestRolls.f k bt137.2).bind fun bt173 => (if bt149.2.2.2.2.2.2 = true then (if bt163.2.2.2.2.2.2 = true then (if (bt139.1 == (bt149.1 == bt163.1 && (bt149.2.1 == bt163.2.1 && (bt149.2.2.1 == bt163.2.2.1 && (bt149.2.2.2.1 == bt163.2.2.2.1 && (bt149.2.2.2.2.1 == bt163.2.2.2.2.1 && (bt149.2.2.2.2.2.1 == bt163.2.2.2.2.2.1))))))) = true then (if bt171.2 = true then (if bt173.2 = true then (some (bt139.1 == (bt171.1.toList == bt173.1.toList))) else (none)) else (none)) else (none)) else (none)) else (none)))))))) else (some true))))))
def laws_FnWordsOfRolls.l0 : Nat → List Int → Int → List Int → Int → Int → Option (Bool)
  | 0, _, _, _, _, _ => none
  | k + 1, x1, x14, x18, x243, x244 => if x244 < x243 then (if 0 ≤ x244 then (if x244 < (x18.length : Int) then (if (rd x18 x244) = 0 then (none) else (if (Int.tmod x14 (rd x18 x244)) = 0 then (if x244 > 0 then (if 0 ≤ (wrap64 (x244 - 1)) then (if (wrap64 (x244 - 1)) < (x18.length : Int) then (if (rd x18 (wrap64 (x244 - 1))) > (rd x18 x244) then (none) else (laws_FnWordsOfRolls.l0 k x1 x14 x18 x243 (wrap64 (x244 + 1)))) else (none)) else (none)) else (laws_FnWordsOfRolls.l0 k x1 x14 x18 x243 (wrap64 (x244 + 1)))) else (none))) else (none)) else (none)) else (laws_FnWordsOfRolls.j1 k x1)
end
def laws_FnWordsOfRolls.f (k : Nat) (l0 : List Int) (l1 : List Int) : Option (Bool) := (laws_big.f l0 l1).bind fun t101 => (if t101 = true then (some true) else ((spec_DrawShortestRolls.f k l0).bind fun t102 => ((impl_ShortestRolls.f k t102).bind fun bt103 => ((spec_ShortestRolls.f k t102).bind fun bt105 => ((impl_BackWord.f t102).bind fun bt107 => ((spec_BackWord.f k t102).bind fun bt109 => ((impl_OrderOfRolls.f k t102).bind fun bt111 => ((spec_OrderOfRolls.f k t102).bind fun bt113 => ((impl_FaceCycles.f k t102).bind fun bt115 => ((spec_FaceCycles.f k t102).bind fun bt119 => (if (bt103.2 != bt105.2) = true then (none) else (if bt103.1.toList = bt105.1.toList then (if (bt107.2 != bt109.2) = true then (none) else (if bt107.1.toList = bt109.1.toList then (if (bt111.2 != bt113.2) = true then (none) else (if bt111.1 = bt113.1 then (if (bt115.2 != bt119.2) = true then (none) else ((laws_jSame.f k bt115.1 bt119.1).bind fun t123 => (if t123 = true then ((impl_IsRolls.f t102).bind fun t124 => (if (bt103.2 != t124) = true then (none) else ((spec_IsRolls.f k t102).bind fun t125 => (if (t124 != t125) = true then (none) else (if (bt107.2 != bt103.2) = true then (none) else (if (bt111.2 != bt103.2) = true then (none) else (if (bt115.2 != bt103.2) = true then (none) else (if bt103.2 = true then ((impl_AreSameRolls.f k t102 bt103.1).bind fun bt126 => ((impl_ShortestRolls.f k bt103.1).bind fun bt128 => ((impl_BackWord.f bt107.1).bind fun bt130 => ((impl_OrderOfRolls.f k bt107.1).bind fun bt132 => (if bt126.2 = true then (if bt126.1 = true then (if bt128.2 = true then (if bt128.1.toList = bt103.1.toList then (if (bt103.1.size : Int) > (t102.size : Int) then (none) else (if ((bt103.1.size : Int) % 2) = ((t102.size : Int) % 2) then (if bt130.2 = true then (if bt130.1.toList = t102.toList then (if bt132.2 = true then (if bt132.1 = bt111.1 then ((laws_jSum.f k bt115.1).bind fun t134 => (if t134 = 6 then (if ((bt111.1 == 1) != ((bt115.1.length : Int) == 6)) = true then (none) else (laws_FnWordsOfRolls.l0 k l1 bt111.1 bt115.1 (bt115.1.length : Int) 0)) else (none))) else (none)) else (none)) else (none)) else (none)) else (none))) else (none)) else (none)) else (none)) else (none)))))) else (laws_FnWordsOfRolls.j1 k l1))))))))) else (none)))) else (none))) else (none))) else (none)))))))))))))
theorem laws_FnWordsOfRolls.mono_l : ∀ k, (∀ y0, LeO (laws_FnWordsOfRolls.j1 k y0) (laws_FnWordsOfRolls.j1 (k + 1) y0)) ∧ (∀ y0 y1 y2 y3 y4, LeO (laws_FnWordsOfRolls.l0 k y0 y1 y2 y3 y4) (laws_FnWordsOfRolls.l0 (k + 1) y0 y1 y2 y3 y4))
  | 0 => ⟨fun _ r h => by simp [laws_FnWordsOfRolls.j1] at h, fun _ _ _ _ _ r h => by simp [laws_FnWordsOfRolls.l0] at h⟩
  | k + 1 => by
    obtain ⟨ih0, ih1⟩ := laws_FnWordsOfRolls.mono_l k
    refine ⟨?_, ?_⟩
    · intro y0
      unfold laws_FnWordsOfRolls.j1
      repeat' first
      | (with_reducible exact ih0 _)
      | (with_reducible exact ih1 _ _ _ _ _)
      | (with_reducible exact impl_AreSameRolls.mono _ _ _)
      | (with_reducible exact impl_FaceCycles.mono _ _)
      | (with_reducible exact impl_OrderOfRolls.mono _ _)
      | (with_reducible exact impl_RollWord.mono _ _ _ _ _ _ _ _)
      | (with_reducible exact impl_ShortestRolls.mono _ _)
      | (with_reducible exact laws_jSame.mono _ _ _)
      | (with_reducible exact laws_jSum.mono _ _)
      | (with_reducible exact spec_AreSameRolls.mono _ _ _)
      | (with_reducible exact spec_BackWord.mono _ _)
      | (with_reducible exact spec_DrawAreSameRolls.mono _ _)
      | (with_reducible exact spec_DrawShortestRolls.mono _ _)
      | (with_reducible exact spec_FaceCycles.mono _ _)
      | (with_reducible exact spec_IsRolls.mono _ _)
      | (with_reducible exact spec_OrderOfRolls.mono _ _)
      | (with_reducible exact spec_ShortestRolls.mono _ _)
      | (with_reducible exact LeO.refl _)
      | (with_reducible exact LeO.none _)
      | (with_reducible refine LeO.ite ?_ ?_)
      | (with_reducible refine LeO.bind ?_ (fun _ => ?_))
      | exact ih0 _
      | exact ih1 _ _ _ _ _
      | exact impl_AreSameRolls.mono _ _ _
      | exact impl_FaceCycles.mono _ _
      | exact impl_OrderOfRolls.mono _ _
      | exact impl_RollWord.mono _ _ _ _ _ _ _ _
      | exact impl_ShortestRolls.mono _ _
      | exact laws_jSame.mono _ _ _
      | exact laws_jSum.mono _ _
      | exact spec_AreSameRolls.mono _ _ _
      | exact spec_BackWord.mono _ _
      | exact spec_DrawAreSameRolls.mono _ _
      | exact spec_DrawShortestRolls.mono _ _
      | exact spec_FaceCycles.mono _ _
      | exact spec_IsRolls.mono _ _
      | exact spec_OrderOfRolls.mono _ _
      | exact spec_ShortestRolls.mono _ _
      | exact LeO.none _
      | refine LeO.ite ?_ ?_
      | refine LeO.bind ?_ (fun _ => ?_)
    · intro y0 y1 y2 y3 y4
      unfold laws_FnWordsOfRolls.l0
      repeat' first
      | (with_reducible exact ih0 _)
      | (with_reducible exact ih1 _ _ _ _ _)
      | (with_reducible exact impl_AreSameRolls.mono _ _ _)
      | (with_reducible exact impl_FaceCycles.mono _ _)
      | (with_reducible exact impl_OrderOfRolls.mono _ _)
      | (with_reducible exact impl_RollWord.mono _ _ _ _ _ _ _ _)
      | (with_reducible exact impl_ShortestRolls.mono _ _)
      | (with_reducible exact laws_jSame.mono _ _ _)
      | (with_reducible exact laws_jSum.mono _ _)
      | (with_reducible exact spec_AreSameRolls.mono _ _ _)
      | (with_reducible exact spec_BackWord.mono _ _)
      | (with_reducible exact spec_DrawAreSameRolls.mono _ _)
      | (with_reducible exact spec_DrawShortestRolls.mono _ _)
      | (with_reducible exact spec_FaceCycles.mono _ _)
      | (with_reducible exact spec_IsRolls.mono _ _)
      | (with_reducible exact spec_OrderOfRolls.mono _ _)
      | (with_reducible exact spec_ShortestRolls.mono _ _)
      | (with_reducible exact LeO.refl _)
      | (with_reducible exact LeO.none _)
      | (with_reducible refine LeO.ite ?_ ?_)
      | (with_reducible refine LeO.bind ?_ (fun _ => ?_))
      | exact ih0 _
      | exact ih1 _ _ _ _ _
      | exact impl_AreSameRolls.mono _ _ _
      | exact impl_FaceCycles.mono _ _
      | exact impl_OrderOfRolls.mono _ _
      | exact impl_RollWord.mono _ _ _ _ _ _ _ _
      | exact impl_ShortestRolls.mono _ _
      | exact laws_jSame.mono _ _ _
      | exact laws_jSum.mono _ _
      | exact spec_AreSameRolls.mono _ _ _
      | exact spec_BackWord.mono _ _
      | exact spec_DrawAreSameRolls.mono _ _
      | exact spec_DrawShortestRolls.mono _ _
      | exact spec_FaceCycles.mono _ _
      | exact spec_IsRolls.mono _ _
      | exact spec_OrderOfRolls.mono _ _
      | exact spec_ShortestRolls.mono _ _
      | exact LeO.none _
      | refine LeO.ite ?_ ?_
      | refine LeO.bind ?_ (fun _ => ?_)
theorem laws_FnWordsOfRolls.mono : ∀ a0 a1 k, LeO (laws_FnWordsOfRolls.f k a0 a1) (laws_FnWordsOfRolls.f (k + 1) a0 a1) := by
  intro a0 a1 k
  obtain ⟨ih0, ih1⟩ := laws_FnWordsOfRolls.mono_l k
  unfold laws_FnWordsOfRolls.f
  repeat' first
      | (with_reducible exact ih0 _)
      | (with_reducible exact ih1 _ _ _ _ _)
      | (with_reducible exact impl_AreSameRolls.mono _ _ _)
      | (with_reducible exact impl_FaceCycles.mono _ _)
      | (with_reducible exact impl_OrderOfRolls.mono _ _)
      | (with_reducible exact impl_RollWord.mono _ _ _ _ _ _ _ _)
      | (with_reducible exact impl_ShortestRolls.mono _ _)
      | (with_reducible exact laws_jSame.mono _ _ _)
      | (with_reducible exact laws_jSum.mono _ _)
      | (with_reducible exact spec_AreSameRolls.mono _ _ _)
      | (with_reducible exact spec_BackWord.mono _ _)
      | (with_reducible exact spec_DrawAreSameRolls.mono _ _)
      | (with_reducible exact spec_DrawShortestRolls.mono _ _)
      | (with_reducible exact spec_FaceCycles.mono _ _)
      | (with_reducible exact spec_IsRolls.mono _ _)
      | (with_reducible exact spec_OrderOfRolls.mono _ _)
      | (with_reducible exact spec_ShortestRolls.mono _ _)
      | (with_reducible exact LeO.refl _)
      | (with_reducible exact LeO.none _)
      | (with_reducible refine LeO.ite ?_ ?_)
      | (with_reducible refine LeO.bind ?_ (fun _ => ?_))
      | exact ih0 _
      | exact ih1 _ _ _ _ _
      | exact impl_AreSameRolls.mono _ _ _
      | exact impl_FaceCycles.mono _ _
      | exact impl_OrderOfRolls.mono _ _
      | exact impl_RollWord.mono _ _ _ _ _ _ _ _
      | exact impl_ShortestRolls.mono _ _
      | exact laws_jSame.mono _ _ _
      | exact laws_jSum.mono _ _
      | exact spec_AreSameRolls.mono _ _ _
      | exact spec_BackWord.mono _ _
      | exact spec_DrawAreSameRolls.mono _ _
      | exact spec_DrawShortestRolls.mono _ _
      | exact spec_FaceCycles.mono _ _
      | exact spec_IsRolls.mono _ _
      | exact spec_OrderOfRolls.mono _ _
      | exact spec_ShortestRolls.mono _ _
      | exact LeO.none _
      | refine LeO.ite ?_ ?_
      | refine LeO.bind ?_ (fun _ => ?_)
set_option maxHeartbeats 8000000 in
set_option maxRecDepth 100000 in
theorem laws_FnWordsOfRolls.calls (k : Nat) (A0 : Option Addr) (c0 : Nat) (l0 : List Int) (A1 : Option Addr) (c1 : Nat) (l1 : List Int) (r : Bool) (w : World) (hr0 : Kd.C (Kd.int .u8) w A0 l0.length l0) (hc0 : l0.length ≤ c0) (hr1 : Kd.C (Kd.int .u8) w A1 l1.length l1) (hc1 : l1.length ≤ c1) (h : laws_FnWordsOfRolls.f k l0 l1 = some r) :
    Calls Tryd.prog 4 #[.slice A0 l0.length c0, .slice A1 l1.length c1] w fun e w' => e = .returned (.bool r) ∧ Below w.heap.size w w' := by
  have hu42 := Tryd.underlying42
  have HR0 := Aside0.mk hr0
  have HC0 := Aside0.mk hc0
  clear hr0 hc0
  have HR1 := Aside0.mk hr1
  have HC1 := Aside0.mk hc1
  clear hr1 hc1
  have HB := Aside0.mk (Below.refl w.heap.size w)
  have H : ((laws_big.f l0 l1).bind fun t101 => (if t101 = true then (some true) else ((spec_DrawShortestRolls.f k l0).bind fun t102 => ((impl_ShortestRolls.f k t102).bind fun bt103 => ((spec_ShortestRolls.f k t102).bind fun bt105 => ((impl_BackWord.f t102).bind fun bt107 => ((spec_BackWord.f k t102).bind fun bt109 => ((impl_OrderOfRolls.f k t102).bind fun bt111 => ((spec_OrderOfRolls.f k t102).bind fun bt113 => ((impl_FaceCycles.f k t102).bind fun bt115 => ((spec_FaceCycles.f k t102).bind fun bt119 => (if (bt103.2 != bt105.2) = true then (none) else (if bt103.1.toList = bt105.1.toList then (if (bt107.2 != bt109.2) = true then (none) else (if bt107.1.toList = bt109.1.toList then (if (bt111.2 != bt113.2) = true then (none) else (if bt111.1 = bt113.1 then (if (bt115.2 != bt119.2) = true then (none) else ((laws_jSame.f k bt115.1 bt119.1).bind fun t123 => (if t123 = true then ((impl_IsRolls.f t102).bind fun t124 => (if (bt103.2 != t124) = true then (none) else ((spec_IsRolls.f k t102).bind fun t125 => (if (t124 != t125) = true then (none) else (if (bt107.2 != bt103.2) = true then (none) else (if (bt111.2 != bt103.2) = true then (none) else (if (bt115.2 != bt103.2) = true then (none) else (if bt103.2 = true then ((impl_AreSameRolls.f k t102 bt103.1).bind fun bt126 => ((impl_ShortestRolls.f k bt103.1).bind fun bt128 => ((impl_BackWord.f bt107.1).bind fun bt130 => ((impl_OrderOfRolls.f k bt107.1).bind fun bt132 => (if bt126.2 = true then (if bt126.1 = true then (if bt128.2 = true then (if bt128.1.toList = bt103.1.toList then (if (bt103.1.size : Int) > (t102.size : Int) then (none) else (if ((bt103.1.size : Int) % 2) = ((t102.size : Int) % 2) then (if bt130.2 = true then (if bt130.1.toList = t102.toList then (if bt132.2 = true then (if bt132.1 = bt111.1 then ((laws_jSum.f k bt115.1).bind fun t134 => (if t134 = 6 then (if ((bt111.1 == 1) != ((bt115.1.length : Int) == 6)) = true then (none) else (laws_FnWordsOfRolls.l0 k l1 bt111.1 bt115.1 (bt115.1.length : Int) 0)) else (none))) else (none)) else (none)) else (none)) else (none)) else (none))) else (none)) else (none)) else (none)) else (none)))))) else (laws_FnWordsOfRolls.j1 k l1))))))))) else (none)))) else (none))) else (none))) else (none)))))))))))))) = some r := h
  clear h
  replace H := Option.bind_eq_some_iff.mp H
  obtain ⟨t101, A30, H⟩ := H
  replace H : (if t101 = true then (some true) else ((spec_DrawShortestRolls.f k l0).bind fun t102 => ((impl_ShortestRolls.f k t102).bind fun bt103 => ((spec_ShortestRolls.f k t102).bind fun bt105 => ((impl_BackWord.f t102).bind fun bt107 => ((spec_BackWord.f k t102).bind fun bt109 => ((impl_OrderOfRolls.f k t102).bind fun bt111 => ((spec_OrderOfRolls.f k t102).bind fun bt113 => ((impl_FaceCycles.f k t102).bind fun bt115 => ((spec_FaceCycles.f k t102).bind fun bt119 => (if (bt103.2 != bt105.2) = true then (none) else (if bt103.1.toList = bt105.1.toList then (if (bt107.2 != bt109.2) = true then (none) else (if bt107.1.toList = bt109.1.toList then (if (bt111.2 != bt113.2) = true then (none) else (if bt111.1 = bt113.1 then (if (bt115.2 != bt119.2) = true then (none) else ((laws_jSame.f k bt115.1 bt119.1).bind fun t123 => (if t123 = true then ((impl_IsRolls.f t102).bind fun t124 => (if (bt103.2 != t124) = true then (none) else ((spec_IsRolls.f k t102).bind fun t125 => (if (t124 != t125) = true then (none) else (if (bt107.2 != bt103.2) = true then (none) else (if (bt111.2 != bt103.2) = true then (none) else (if (bt115.2 != bt103.2) = true then (none) else (if bt103.2 = true then ((impl_AreSameRolls.f k t102 bt103.1).bind fun bt126 => ((impl_ShortestRolls.f k bt103.1).bind fun bt128 => ((impl_BackWord.f bt107.1).bind fun bt130 => ((impl_OrderOfRolls.f k bt107.1).bind fun bt132 => (if bt126.2 = true then (if bt126.1 = true then (if bt128.2 = true then (if bt128.1.toList = bt103.1.toList then (if (bt103.1.size : Int) > (t102.size : Int) then (none) else (if ((bt103.1.size : Int) % 2) = ((t102.size : Int) % 2) then (if bt130.2 = true then (if bt130.1.toList = t102.toList then (if bt132.2 = true then (if bt132.1 = bt111.1 then ((laws_jSum.f k bt115.1).bind fun t134 => (if t134 = 6 then (if ((bt111.1 == 1) != ((bt115.1.length : Int) == 6)) = true then (none) else (laws_FnWordsOfRolls.l0 k l1 bt111.1 bt115.1 (bt115.1.length : Int) 0)) else (none))) else (none)) else (none)) else (none)) else (none)) else (none))) else (none)) else (none)) else (none)) else (none)))))) else (laws_FnWordsOfRolls.j1 k l1))))))))) else (none)))) else (none))) else (none))) else (none))))))))))))) = some r := H
  have A3 := Aside0.mk A30
  clear A30
  by_cases c4 : t101 = true
  · subst c4
    have H1 : (some true) = some r := by rw [if_pos rfl] at H; exact H
    clear H
    have H := H1
    clear H1
    obtain rfl := Option.some.inj H
    go_enter Tryd.func4, Tryd.ntmps4
    go_wp2_with (first | ((with_reducible refine gate_callee (f := 7) rfl ?_); refine goesL_ (some 48) rfl rfl Tryd.func7 (by kernel_rfl) rfl #[.slice A0 l0.length c0, .slice A1 l1.length c1] rfl (by (try simp only [List.map_toArray, List.map_cons, List.map_nil]); first | done | rfl | (simp only [List.length_drop, List.length_take]; rfl)) ?_; (with_reducible refine (laws_big.calls _ _ l0 _ _ l1 true _ ?side1 ?side2 ?side3 ?side4 A3.out).mono ?_); (case side1 => repeat (first | exact HR0.out | (with_reducible refine Kd.C_alloc ?_ _) | (with_reducible refine Kd.C_drewN ?_ _) | (with_reducible refine Kd.C_drew ?_))); (case side2 => exact HC0.out); (case side3 => repeat (first | exact HR1.out | (with_reducible refine Kd.C_alloc ?_ _) | (with_reducible refine Kd.C_drewN ?_ _) | (with_reducible refine Kd.C_drew ?_))); (case side4 => exact HC1.out); rintro e w' ⟨rfl, ⟨nd, rfl⟩⟩; refine ⟨_, rfl, ?_⟩))
    go_ret
    exact ⟨by first | rfl | (simp [errW_none, errW_some] <;> rfl) | (simp [*, errW_none, errW_some] <;> rfl), by repeat (first | (with_reducible first | exact HB.out | apply below_alloc | apply pw_below_drewN | apply below_drew1) | exact HB.out)⟩
  · replace c4 := Bool.eq_false_iff.mpr c4
    subst c4
    have H1 : ((spec_DrawShortestRolls.f k l0).bind fun t102 => ((impl_ShortestRolls.f k t102).bind fun bt103 => ((spec_ShortestRolls.f k t102).bind fun bt105 => ((impl_BackWord.f t102).bind fun bt107 => ((spec_BackWord.f k t102).bind fun bt109 => ((impl_OrderOfRolls.f k t102).bind fun bt111 => ((spec_OrderOfRolls.f k t102).bind fun bt113 => ((impl_FaceCycles.f k t102).bind fun bt115 => ((spec_FaceCycles.f k t102).bind fun bt119 => (if (bt103.2 != bt105.2) = true then (none) else (if bt103.1.toList = bt105.1.toList then (if (bt107.2 != bt109.2) = true then (none) else (if bt107.1.toList = bt109.1.toList then (if (bt111.2 != bt113.2) = true then (none) else (if bt111.1 = bt113.1 then (if (bt115.2 != bt119.2) = true then (none) else ((laws_jSame.f k bt115.1 bt119.1).bind fun t123 => (if t123 = true then ((impl_IsRolls.f t102).bind fun t124 => (if (bt103.2 != t124) = true then (none) else ((spec_IsRolls.f k t102).bind fun t125 => (if (t124 != t125) = true then (none) else (if (bt107.2 != bt103.2) = true then (none) else (if (bt111.2 != bt103.2) = true then (none) else (if (bt115.2 != bt103.2) = true then (none) else (if bt103.2 = true then ((impl_AreSameRolls.f k t102 bt103.1).bind fun bt126 => ((impl_ShortestRolls.f k bt103.1).bind fun bt128 => ((impl_BackWord.f bt107.1).bind fun bt130 => ((impl_OrderOfRolls.f k bt107.1).bind fun bt132 => (if bt126.2 = true then (if bt126.1 = true then (if bt128.2 = true then (if bt128.1.toList = bt103.1.toList then (if (bt103.1.size : Int) > (t102.size : Int) then (none) else (if ((bt103.1.size : Int) % 2) = ((t102.size : Int) % 2) then (if bt130.2 = true then (if bt130.1.toList = t102.toList then (if bt132.2 = true then (if bt132.1 = bt111.1 then ((laws_jSum.f k bt115.1).bind fun t134 => (if t134 = 6 then (if ((bt111.1 == 1) != ((bt115.1.length : Int) == 6)) = true then (none) else (laws_FnWordsOfRolls.l0 k l1 bt111.1 bt115.1 (bt115.1.length : Int) 0)) else (none))) else (none)) else (none)) else (none)) else (none)) else (none))) else (none)) else (none)) else (none)) else (none)))))) else (laws_FnWordsOfRolls.j1 k l1))))))))) else (none)))) else (none))) else (none))) else (none)))))))))))) = some r := by rw [if_neg (show ¬ (false = true) by decide)] at H; exact H
    clear H
    have H := H1
    clear H1
    replace H := Option.bind_eq_some_iff.mp H
    obtain ⟨t102, A50, H⟩ := H
    replace H : ((impl_ShortestRolls.f k t102).bind fun bt103 => ((spec_ShortestRolls.f k t102).bind fun bt105 => ((impl_BackWord.f t102).bind fun bt107 => ((spec_BackWord.f k t102).bind fun bt109 => ((impl_OrderOfRolls.f k t102).bind fun bt111 => ((spec_OrderOfRolls.f k t102).bind fun bt113 => ((impl_FaceCycles.f k t102).bind fun bt115 => ((spec_FaceCycles.f k t102).bind fun bt119 => (if (bt103.2 != bt105.2) = true then (none) else (if bt103.1.toList = bt105.1.toList then (if (bt107.2 != bt109.2) = true then (none) else (if bt107.1.toList = bt109.1.toList then (if (bt111.2 != bt113.2) = true then (none) else (if bt111.1 = bt113.1 then (if (bt115.2 != bt119.2) = true then (none) else ((laws_jSame.f k bt115.1 bt119.1).bind fun t123 => (if t123 = true then ((impl_IsRolls.f t102).bind fun t124 => (if (bt103.2 != t124) = true then (none) else ((spec_IsRolls.f k t102).bind fun t125 => (if (t124 != t125) = true then (none) else (if (bt107.2 != bt103.2) = true then (none) else (if (bt111.2 != bt103.2) = true then (none) else (if (bt115.2 != bt103.2) = true then (none) else (if bt103.2 = true then ((impl_AreSameRolls.f k t102 bt103.1).bind fun bt126 => ((impl_ShortestRolls.f k bt103.1).bind fun bt128 => ((impl_BackWord.f bt107.1).bind fun bt130 => ((impl_OrderOfRolls.f k bt107.1).bind fun bt132 => (if bt126.2 = true then (if bt126.1 = true then (if bt128.2 = true then (if bt128.1.toList = bt103.1.toList then (if (bt103.1.size : Int) > (t102.size : Int) then (none) else (if ((bt103.1.size : Int) % 2) = ((t102.size : Int) % 2) then (if bt130.2 = true then (if bt130.1.toList = t102.toList then (if bt132.2 = true then (if bt132.1 = bt111.1 then ((laws_jSum.f k bt115.1).bind fun t134 => (if t134 = 6 then (if ((bt111.1 == 1) != ((bt115.1.length : Int) == 6)) = true then (none) else (laws_FnWordsOfRolls.l0 k l1 bt111.1 bt115.1 (bt115.1.length : Int) 0)) else (none))) else (none)) else (none)) else (none)) else (none)) else (none))) else (none)) else (none)) else (none)) else (none)))))) else (laws_FnWordsOfRolls.j1 k l1))))))))) else (none)))) else (none))) else (none))) else (none))))))))))) = some r := H
    have A5 := Aside0.mk A50
    clear A50
    replace H := Option.bind_eq_some_iff.mp H
    obtain ⟨⟨t103, t104⟩, A60, H⟩ := H
    replace H : ((spec_ShortestRolls.f k t102).bind fun bt105 => ((impl_BackWord.f t102).bind fun bt107 => ((spec_BackWord.f k t102).bind fun bt109 => ((impl_OrderOfRolls.f k t102).bind fun bt111 => ((spec_OrderOfRolls.f k t102).bind fun bt113 => ((impl_FaceCycles.f k t102).bind fun bt115 => ((spec_FaceCycles.f k t102).bind fun bt119 => (if (t104 != bt105.2) = true then (none) else (if t103.toList = bt105.1.toList then (if (bt107.2 != bt109.2) = true then (none) else (if bt107.1.toList = bt109.1.toList then (if (bt111.2 != bt113.2) = true then (none) else (if bt111.1 = bt113.1 then (if (bt115.2 != bt119.2) = true then (none) else ((laws_jSame.f k bt115.1 bt119.1).bind fun t123 => (if t123 = true then ((impl_IsRolls.f t102).bind fun t124 => (if (t104 != t124) = true then (none) else ((spec_IsRolls.f k t102).bind fun t125 => (if (t124 != t125) = true then (none) else (if (bt107.2 != t104) = true then (none) else (if (bt111.2 != t104) = true then (none) else (if (bt115.2 != t104) = true then (none) else (if t104 = true then ((impl_AreSameRolls.f k t102 t103).bind fun bt126 => ((impl_ShortestRolls.f k t103).bind fun bt128 => ((impl_BackWord.f bt107.1).bind fun bt130 => ((impl_OrderOfRolls.f k bt107.1).bind fun bt132 => (if bt126.2 = true then (if bt126.1 = true then (if bt128.2 = true then (if bt128.1.toList = t103.toList then (if (t103.size : Int) > (t102.size : Int) then (none) else (if ((t103.size : Int) % 2) = ((t102.size : Int) % 2) then (if bt130.2 = true then (if bt130.1.toList = t102.toList then (if bt132.2 = true then (if bt132.1 = bt111.1 then ((laws_jSum.f k bt115.1).bind fun t134 => (if t134 = 6 then (if ((bt111.1 == 1) != ((bt115.1.length : Int) == 6)) = true then (none) else (laws_FnWordsOfRolls.l0 k l1 bt111.1 bt115.1 (bt115.1.length : Int) 0)) else (none))) else (none)) else (none)) else (none)) else (none)) else (none))) else (none)) else (none)) else (none)) else (none)))))) else (laws_FnWordsOfRolls.j1 k l1))))))))) else (none)))) else (none))) else (none))) else (none)))))))))) = some r := H
    have A6 := Aside0.mk A60
    clear A60
    replace H := Option.bind_eq_some_iff.mp H
    obtain ⟨⟨t105, t106⟩, A70, H⟩ := H
    replace H : ((impl_BackWord.f t102).bind fun bt107 => ((spec_BackWord.f k t102).bind fun bt109 => ((impl_OrderOfRolls.f k t102).bind fun bt111 => ((spec_OrderOfRolls.f k t102).bind fun bt113 => ((impl_FaceCycles.f k t102).bind fun bt115 => ((spec_FaceCycles.f k t102).bind fun bt119 => (if (t104 != t106) = true then (none) else (if t103.toList = t105.toList then (if (bt107.2 != bt109.2) = true then (none) else (if bt107.1.toList = bt109.1.toList then (if (bt111.2 != bt113.2) = true then (none) else (if bt111.1 = bt113.1 then (if (bt115.2 != bt119.2) = true then (none) else ((laws_jSame.f k bt115.1 bt119.1).bind fun t123 => (if t123 = true then ((impl_IsRolls.f t102).bind fun t124 => (if (t104 != t124) = true then (none) else ((spec_IsRolls.f k t102).bind fun t125 => (if (t124 != t125) = true then (none) else (if (bt107.2 != t104) = true then (none) else (if (bt111.2 != t104) = true then (none) else (if (bt115.2 != t104) = true then (none) else (if t104 = true then ((impl_AreSameRolls.f k t102 t103).bind fun bt126 => ((impl_ShortestRolls.f k t103).bind fun bt128 => ((impl_BackWord.f bt107.1).bind fun bt130 => ((impl_OrderOfRolls.f k bt107.1).bind fun bt132 => (if bt126.2 = true then (if bt126.1 = true then (if bt128.2 = true then (if bt128.1.toList = t103.toList then (if (t103.size : Int) > (t102.size : Int) then (none) else (if ((t103.size : Int) % 2) = ((t102.size : Int) % 2) then (if bt130.2 = true then (if bt130.1.toList = t102.toList then (if bt132.2 = true then (if bt132.1 = bt111.1 then ((laws_jSum.f k bt115.1).bind fun t134 => (if t134 = 6 then (if ((bt111.1 == 1) != ((bt115.1.length : Int) == 6)) = true then (none) else (laws_FnWordsOfRolls.l0 k l1 bt111.1 bt115.1 (bt115.1.length : Int) 0)) else (none))) else (none)) else (none)) else (none)) else (none)) else (none))) else (none)) else (none)) else (none)) else (none)))))) else (laws_FnWordsOfRolls.j1 k l1))))))))) else (none)))) else (none))) else (none))) else (none))))))))) = some r := H
    have A7 := Aside0.mk A70
    clear A70
    replace H := Option.bind_eq_some_iff.mp H
    obtain ⟨⟨t107, t108⟩, A80, H⟩ := H
    replace H : ((spec_BackWord.f k t102).bind fun bt109 => ((impl_OrderOfRolls.f k t102).bind fun bt111 => ((spec_OrderOfRolls.f k t102).bind fun bt113 => ((impl_FaceCycles.f k t102).bind fun bt115 => ((spec_FaceCycles.f k t102).bind fun bt119 => (if (t104 != t106) = true then (none) else (if t103.toList = t105.toList then (if (t108 != bt109.2) = true then (none) else (if t107.toList = bt109.1.toList then (if (bt111.2 != bt113.2) = true then (none) else (if bt111.1 = bt113.1 then (if (bt115.2 != bt119.2) = true then (none) else ((laws_jSame.f k bt115.1 bt119.1).bind fun t123 => (if t123 = true then ((impl_IsRolls.f t102).bind fun t124 => (if (t104 != t124) = true then (none) else ((spec_IsRolls.f k t102).bind fun t125 => (if (t124 != t125) = true then (none) else (if (t108 != t104) = true then (none) else (if (bt111.2 != t104) = true then (none) else (if (bt115.2 != t104) = true then (none) else (if t104 = true then ((impl_AreSameRolls.f k t102 t103).bind fun bt126 => ((impl_ShortestRolls.f k t103).bind fun bt128 => ((impl_BackWord.f t107).bind fun bt130 => ((impl_OrderOfRolls.f k t107).bind fun bt132 => (if bt126.2 = true then (if bt126.1 = true then (if bt128.2 = true then (if bt128.1.toList = t103.toList then (if (t103.size : Int) > (t102.size : Int) then (none) else (if ((t103.size : Int) % 2) = ((t102.size : Int) % 2) then (if bt130.2 = true then (if bt130.1.toList = t102.toList then (if bt132.2 = true then (if bt132.1 = bt111.1 then ((laws_jSum.f k bt115.1).bind fun t134 => (if t134 = 6 then (if ((bt111.1 == 1) != ((bt115.1.length : Int) == 6)) = true then (none) else (laws_FnWordsOfRolls.l0 k l1 bt111.1 bt115.1 (bt115.1.length : Int) 0)) else (none))) else (none)) else (none)) else (none)) else (none)) else (none))) else (none)) else (none)) else (none)) else (none)))))) else (laws_FnWordsOfRolls.j1 k l1))))))))) else (none)))) else (none))) else (none))) else (none)))))))) = some r := H
    have A8 := Aside0.mk A80
    clear A80
    replace H := Option.bind_eq_some_iff.mp H
    obtain ⟨⟨t109, t110⟩, A90, H⟩ := H
    replace H : ((impl_OrderOfRolls.f k t102).bind fun bt111 => ((spec_OrderOfRolls.f k t102).bind fun bt113 => ((impl_FaceCycles.f k t102).bind fun bt115 => ((spec_FaceCycles.f k t102).bind fun bt119 => (if (t104 != t106) = true then (none) else (if t103.toList = t105.toList then (if (t108 != t110) = true then (none) else (if t107.toList = t109.toList then (if (bt111.2 != bt113.2) = true then (none) else (if bt111.1 = bt113.1 then (if (bt115.2 != bt119.2) = true then (none) else ((laws_jSame.f k bt115.1 bt119.1).bind fun t123 => (if t123 = true then ((impl_IsRolls.f t102).bind fun t124 => (if (t104 != t124) = true then (none) else ((spec_IsRolls.f k t102).bind fun t125 => (if (t124 != t125) = true then (none) else (if (t108 != t104) = true then (none) else (if (bt111.2 != t104) = true then (none) else (if (bt115.2 != t104) = true then (none) else (if t104 = true then ((impl_AreSameRolls.f k t102 t103).bind fun bt126 => ((impl_ShortestRolls.f k t103).bind fun bt128 => ((impl_BackWord.f t107).bind fun bt130 => ((impl_OrderOfRolls.f k t107).bind fun bt132 => (if bt126.2 = true then (if bt126.1 = true then (if bt128.2 = true then (if bt128.1.toList = t103.toList then (if (t103.size : Int) > (t102.size : Int) then (none) else (if ((t103.size : Int) % 2) = ((t102.size : Int) % 2) then (if bt130.2 = true then (if bt130.1.toList = t102.toList then (if bt132.2 = true then (if bt132.1 = bt111.1 then ((laws_jSum.f k bt115.1).bind fun t134 => (if t134 = 6 then (if ((bt111.1 == 1) != ((bt115.1.length : Int) == 6)) = true then (none) else (laws_FnWordsOfRolls.l0 k l1 bt111.1 bt115.1 (bt115.1.length : Int) 0)) else (none))) else (none)) else (none)) else (none)) else (none)) else (none))) else (none)) else (none)) else (none)) else (none)))))) else (laws_FnWordsOfRolls.j1 k l1))))))))) else (none)))) else (none))) else (none))) else (none))))))) = some r := H
    have A9 := Aside0.mk A90
    clear A90
    replace H := Option.bind_eq_some_iff.mp H
    obtain ⟨⟨t111, t112⟩, A100, H⟩ := H
    replace H : ((spec_OrderOfRolls.f k t102).bind fun bt113 => ((impl_FaceCycles.f k t102).bind fun bt115 => ((spec_FaceCycles.f k t102).bind fun bt119 => (if (t104 != t106) = true then (none) else (if t103.toList = t105.toList then (if (t108 != t110) = true then (none) else (if t107.toList = t109.toList then (if (t112 != bt113.2) = true then (none) else (if t111 = bt113.1 then (if (bt115.2 != bt119.2) = true then (none) else ((laws_jSame.f k bt115.1 bt119.1).bind fun t123 => (if t123 = true then ((impl_IsRolls.f t102).bind fun t124 => (if (t104 != t124) = true then (none) else ((spec_IsRolls.f k t102).bind fun t125 => (if (t124 != t125) = true then (none) else (if (t108 != t104) = true then (none) else (if (t112 != t104) = true then (none) else (if (bt115.2 != t104) = true then (none) else (if t104 = true then ((impl_AreSameRolls.f k t102 t103).bind fun bt126 => ((impl_ShortestRolls.f k t103).bind fun bt128 => ((impl_BackWord.f t107).bind fun bt130 => ((impl_OrderOfRolls.f k t107).bind fun bt132 => (if bt126.2 = true then (if bt126.1 = true then (if bt128.2 = true then (if bt128.1.toList = t103.toList then (if (t103.size : Int) > (t102.size : Int) then (none) else (if ((t103.size : Int) % 2) = ((t102.size : Int) % 2) then (if bt130.2 = true then (if bt130.1.toList = t102.toList then (if bt132.2 = true then (if bt132.1 = t111 then ((laws_jSum.f k bt115.1).bind fun t134 => (if t134 = 6 then (if ((t111 == 1) != ((bt115.1.length : Int) == 6)) = true then (none) else (laws_FnWordsOfRolls.l0 k l1 t111 bt115.1 (bt115.1.length : Int) 0)) else (none))) else (none)) else (none)) else (none)) else (none)) else (none))) else (none)) else (none)) else (none)) else (none)))))) else (laws_FnWordsOfRolls.j1 k l1))))))))) else (none)))) else (none))) else (none))) else (none)))))) = some r := H
    have A10 := Aside0.mk A100
    clear A100
    replace H := Option.bind_eq_some_iff.mp H
    obtain ⟨⟨t113, t114⟩, A110, H⟩ := H
    replace H : ((impl_FaceCycles.f k t102).bind fun bt115 => ((spec_FaceCycles.f k t102).bind fun bt119 => (if (t104 != t106) = true then (none) else (if t103.toList = t105.toList then (if (t108 != t110) = true then (none) else (if t107.toList = t109.toList then (if (t112 != t114) = true then (none) else (if t111 = t113 then (if (bt115.2 != bt119.2) = true then (none) else ((laws_jSame.f k bt115.1 bt119.1).bind fun t123 => (if t123 = true then ((impl_IsRolls.f t102).bind fun t124 => (if (t104 != t124) = true then (none) else ((spec_IsRolls.f k t102).bind fun t125 => (if (t124 != t125) = true then (none) else (if (t108 != t104) = true then (none) else (if (t112 != t104) = true then (none) else (if (bt115.2 != t104) = true then (none) else (if t104 = true then ((impl_AreSameRolls.f k t102 t103).bind fun bt126 => ((impl_ShortestRolls.f k t103).bind fun bt128 => ((impl_BackWord.f t107).bind fun bt130 => ((impl_OrderOfRolls.f k t107).bind fun bt132 => (if bt126.2 = true then (if bt126.1 = true then (if bt128.2 = true then (if bt128.1.toList = t103.toList then (if (t103.size : Int) > (t102.size : Int) then (none) else (if ((t103.size : Int) % 2) = ((t102.size : Int) % 2) then (if bt130.2 = true then (if bt130.1.toList = t102.toList then (if bt132.2 = true then (if bt132.1 = t111 then ((laws_jSum.f k bt115.1).bind fun t134 => (if t134 = 6 then (if ((t111 == 1) != ((bt115.1.length : Int) == 6)) = true then (none) else (laws_FnWordsOfRolls.l0 k l1 t111 bt115.1 (bt115.1.length : Int) 0)) else (none))) else (none)) else (none)) else (none)) else (none)) else (none))) else (none)) else (none)) else (none)) else (none)))))) else (laws_FnWordsOfRolls.j1 k l1))))))))) else (none)))) else (none))) else (none))) else (none))))) = some r := H
    have A11 := Aside0.mk A110
    clear A110
    replace H := Option.bind_eq_some_iff.mp H
    obtain ⟨⟨t115, t116⟩, A120, H⟩ := H
    replace H : ((spec_FaceCycles.f k t102).bind fun bt119 => (if (t104 != t106) = true then (none) else (if t103.toList = t105.toList then (if (t108 != t110) = true then (none) else (if t107.toList = t109.toList then (if (t112 != t114) = true then (none) else (if t111 = t113 then (if (t116 != bt119.2) = true then (none) else ((laws_jSame.f k t115 bt119.1).bind fun t123 => (if t123 = true then ((impl_IsRolls.f t102).bind fun t124 => (if (t104 != t124) = true then (none) else ((spec_IsRolls.f k t102).bind fun t125 => (if (t124 != t125) = true then (none) else (if (t108 != t104) = true then (none) else (if (t112 != t104) = true then (none) else (if (t116 != t104) = true then (none) else (if t104 = true then ((impl_AreSameRolls.f k t102 t103).bind fun bt126 => ((impl_ShortestRolls.f k t103).bind fun bt128 => ((impl_BackWord.f t107).bind fun bt130 => ((impl_OrderOfRolls.f k t107).bind fun bt132 => (if bt126.2 = true then (if bt126.1 = true then (if bt128.2 = true then (if bt128.1.toList = t103.toList then (if (t103.size : Int) > (t102.size : Int) then (none) else (if ((t103.size : Int) % 2) = ((t102.size : Int) % 2) then (if bt130.2 = true then (if bt130.1.toList = t102.toList then (if bt132.2 = true then (if bt132.1 = t111 then ((laws_jSum.f k t115).bind fun t134 => (if t134 = 6 then (if ((t111 == 1) != ((t115.length : Int) == 6)) = true then (none) else (laws_FnWordsOfRolls.l0 k l1 t111 t115 (t115.length : Int) 0)) else (none))) else (none)) else (none)) else (none)) else (none)) else (none))) else (none)) else (none)) else (none)) else (none)))))) else (laws_FnWordsOfRolls.j1 k l1))))))))) else (none)))) else (none))) else (none))) else (none)))) = some r := H
    have A12 := Aside0.mk A120
    clear A120
    replace H := Option.bind_eq_some_iff.mp H
    obtain ⟨⟨t119, t120⟩, A130, H⟩ := H
    replace H : (if (t104 != t106) = true then (none) else (if t103.toList = t105.toList then (if (t108 != t110) = true then (none) else (if t107.toList = t109.toList then (if (t112 != t114) = true then (none) else (if t111 = t113 then (if (t116 != t120) = true then (none) else ((laws_jSame.f k t115 t119).bind fun t123 => (if t123 = true then ((impl_IsRolls.f t102).bind fun t124 => (if (t104 != t124) = true then (none) else ((spec_IsRolls.f k t102).bind fun t125 => (if (t124 != t125) = true then (none) else (if (t108 != t104) = true then (none) else (if (t112 != t104) = true then (none) else (if (t116 != t104) = true then (none) else (if t104 = true then ((impl_AreSameRolls.f k t102 t103).bind fun bt126 => ((impl_ShortestRolls.f k t103).bind fun bt128 => ((impl_BackWord.f t107).bind fun bt130 => ((impl_OrderOfRolls.f k t107).bind fun bt132 => (if bt126.2 = true then (if bt126.1 = true then (if bt128.2 = true then (if bt128.1.toList = t103.toList then (if (t103.size : Int) > (t102.size : Int) then (none) else (if ((t103.size : Int) % 2) = ((t102.size : Int) % 2) then (if bt130.2 = true then (if bt130.1.toList = t102.toList then (if bt132.2 = true then (if bt132.1 = t111 then ((laws_jSum.f k t115).bind fun t134 => (if t134 = 6 then (if ((t111 == 1) != ((t115.length : Int) == 6)) = true then (none) else (laws_FnWordsOfRolls.l0 k l1 t111 t115 (t115.length : Int) 0)) else (none))) else (none)) else (none)) else (none)) else (none)) else (none))) else (none)) else (none)) else (none)) else (none)))))) else (laws_FnWordsOfRolls.j1 k l1))))))))) else (none)))) else (none))) else (none))) else (none))) = some r := H
    have A13 := Aside0.mk A130
    clear A130
    by_cases c14 : (t104 != t106) = true
    · rw [if_pos c14] at H
      exact absurd H (by simp)
    · rw [if_neg c14] at H
      have c14b0 : (t104 != t106) = false := by simpa using c14
      (try (have c14b1 : decide (t104 = t106) = true := by simpa using c14))
      (try (have c14b2 : (t104 == t106) = true := by simpa using c14))
      clear c14
      by_cases c15 : t103.toList = t105.toList
      · rw [if_pos c15] at H
        have c15b0 : (t103.toList == t105.toList) = true := beq_iff_eq.mpr c15
        have c15b1 : (t103.toList != t105.toList) = false := bne_eq_false_iff_eq.mpr c15
        clear c15
        by_cases c16 : (t108 != t110) = true
        · rw [if_pos c16] at H
          exact absurd H (by simp)
        · rw [if_neg c16] at H
          have c16b0 : (t108 != t110) = false := by simpa using c16
          (try (have c16b1 : decide (t108 = t110) = true := by simpa using c16))
          (try (have c16b2 : (t108 == t110) = true := by simpa using c16))
          clear c16
          by_cases c17 : t107.toList = t109.toList
          · rw [if_pos c17] at H
            have c17b0 : (t107.toList == t109.toList) = true := beq_iff_eq.mpr c17
            have c17b1 : (t107.toList != t109.toList) = false := bne_eq_false_iff_eq.mpr c17
            clear c17
            by_cases c18 : (t112 != t114) = true
            · rw [if_pos c18] at H
              exact absurd H (by simp)
            · rw [if_neg c18] at H
              have c18b0 : (t112 != t114) = false := by simpa using c18
              (try (have c18b1 : decide (t112 = t114) = true := by simpa using c18))
              (try (have c18b2 : (t112 == t114) = true := by simpa using c18))
              clear c18
              by_cases c19 : t111 = t113
              · rw [if_pos c19] at H
                have c19b0 : (t111 == t113) = true := beq_iff_eq.mpr c19
                have c19b1 : (t111 != t113) = false := bne_eq_false_iff_eq.mpr c19
                clear c19
                by_cases c20 : (t116 != t120) = true
                · rw [if_pos c20] at H
                  exact absurd H (by simp)
                · rw [if_neg c20] at H
                  have c20b0 : (t116 != t120) = false := by simpa using c20
                  (try (have c20b1 : decide (t116 = t120) = true := by simpa using c20))
                  (try (have c20b2 : (t116 == t120) = true := by simpa using c20))
                  clear c20
                  replace H := Option.bind_eq_some_iff.mp H
                  obtain ⟨t123, A210, H⟩ := H
                  replace H : (if t123 = true then ((impl_IsRolls.f t102).bind fun t124 => (if (t104 != t124) = true then (none) else ((spec_IsRolls.f k t102).bind fun t125 => (if (t124 != t125) = true then (none) else (if (t108 != t104) = true then (none) else (if (t112 != t104) = true then (none) else (if (t116 != t104) = true then (none) else (if t104 = true then ((impl_AreSameRolls.f k t102 t103).bind fun bt126 => ((impl_ShortestRolls.f k t103).bind fun bt128 => ((impl_BackWord.f t107).bind fun bt130 => ((impl_OrderOfRolls.f k t107).bind fun bt132 => (if bt126.2 = true then (if bt126.1 = true then (if bt128.2 = true then (if bt128.1.toList = t103.toList then (if (t103.size : Int) > (t102.size : Int) then (none) else (if ((t103.size : Int) % 2) = ((t102.size : Int) % 2) then (if bt130.2 = true then (if bt130.1.toList = t102.toList then (if bt132.2 = true then (if bt132.1 = t111 then ((laws_jSum.f k t115).bind fun t134 => (if t134 = 6 then (if ((t111 == 1) != ((t115.length : Int) == 6)) = true then (none) else (laws_FnWordsOfRolls.l0 k l1 t111 t115 (t115.length : Int) 0)) else (none))) else (none)) else (none)) else (none)) else (none)) else (none))) else (none)) else (none)) else (none)) else (none)))))) else (laws_FnWordsOfRolls.j1 k l1))))))))) else (none)) = some r := H
                  have A21 := Aside0.mk A210
                  clear A210
                  by_cases c22 : t123 = true
                  · subst c22
                    have H1 : ((impl_IsRolls.f t102).bind fun t124 => (if (t104 != t124) = true then (none) else ((spec_IsRolls.f k t102).bind fun t125 => (if (t124 != t125) = true then (none) else (if (t108 != t104) = true then (none) else (if (t112 != t104) = true then (none) else (if (t116 != t104) = true then (none) else (if t104 = true then ((impl_AreSameRolls.f k t102 t103).bind fun bt126 => ((impl_ShortestRolls.f k t103).bind fun bt128 => ((impl_BackWord.f t107).bind fun bt130 => ((impl_OrderOfRolls.f k t107).bind fun bt132 => (if bt126.2 = true then (if bt126.1 = true then (if bt128.2 = true then (if bt128.1.toList = t103.toList then (if (t103.size : Int) > (t102.size : Int) then (none) else (if ((t103.size : Int) % 2) = ((t102.size : Int) % 2) then (if bt130.2 = true then (if bt130.1.toList = t102.toList then (if bt132.2 = true then (if bt132.1 = t111 then ((laws_jSum.f k t115).bind fun t134 => (if t134 = 6 then (if ((t111 == 1) != ((t115.length : Int) == 6)) = true then (none) else (laws_FnWordsOfRolls.l0 k l1 t111 t115 (t115.length : Int) 0)) else (none))) else (none)) else (none)) else (none)) else (none)) else (none))) else (none)) else (none)) else (none)) else (none)))))) else (laws_FnWordsOfRolls.j1 k l1))))))))) = some r := by rw [if_pos rfl] at H; exact H
                    clear H
                    have H := H1
                    clear H1
                    replace H := Option.bind_eq_some_iff.mp H
                    obtain ⟨t124, A230, H⟩ := H
                    replace H : (if (t104 != t124) = true then (none) else ((spec_IsRolls.f k t102).bind fun t125 => (if (t124 != t125) = true then (none) else (if (t108 != t104) = true then (none) else (if (t112 != t104) = true then (none) else (if (t116 != t104) = true then (none) else (if t104 = true then ((impl_AreSameRolls.f k t102 t103).bind fun bt126 => ((impl_ShortestRolls.f k t103).bind fun bt128 => ((impl_BackWord.f t107).bind fun bt130 => ((impl_OrderOfRolls.f k t107).bind fun bt132 => (if bt126.2 = true then (if bt126.1 = true then (if bt128.2 = true then (if bt128.1.toList = t103.toList then (if (t103.size : Int) > (t102.size : Int) then (none) else (if ((t103.size : Int) % 2) = ((t102.size : Int) % 2) then (if bt130.2 = true then (if bt130.1.toList = t102.toList then (if bt132.2 = true then (if bt132.1 = t111 then ((laws_jSum.f k t115).bind fun t134 => (if t134 = 6 then (if ((t111 == 1) != ((t115.length : Int) == 6)) = true then (none) else (laws_FnWordsOfRolls.l0 k l1 t111 t115 (t115.length : Int) 0)) else (none))) else (none)) else (none)) else (none)) else (none)) else (none))) else (none)) else (none)) else (none)) else (none)))))) else (laws_FnWordsOfRolls.j1 k l1)))))))) = some r := H
                    have A23 := Aside0.mk A230
                    clear A230
                    by_cases c24 : (t104 != t124) = true
                    · rw [if_pos c24] at H
                      exact absurd H (by simp)
                    · rw [if_neg c24] at H
                      have c24b0 : (t104 != t124) = false := by simpa using c24
                      (try (have c24b1 : decide (t104 = t124) = true := by simpa using c24))
                      (try (have c24b2 : (t104 == t124) = true := by simpa using c24))
                      clear c24
                      replace H := Option.bind_eq_some_iff.mp H
                      obtain ⟨t125, A250, H⟩ := H
                      replace H : (if (t124 != t125) = true then (none) else (if (t108 != t104) = true then (none) else (if (t112 != t104) = true then (none) else (if (t116 != t104) = true then (none) else (if t104 = true then ((impl_AreSameRolls.f k t102 t103).bind fun bt126 => ((impl_ShortestRolls.f k t103).bind fun bt128 => ((impl_BackWord.f t107).bind fun bt130 => ((impl_OrderOfRolls.f k t107).bind fun bt132 => (if bt126.2 = true then (if bt126.1 = true then (if bt128.2 = true then (if bt128.1.toList = t103.toList then (if (t103.size : Int) > (t102.size : Int) then (none) else (if ((t103.size : Int) % 2) = ((t102.size : Int) % 2) then (if bt130.2 = true then (if bt130.1.toList = t102.toList then (if bt132.2 = true then (if bt132.1 = t111 then ((laws_jSum.f k t115).bind fun t134 => (if t134 = 6 then (if ((t111 == 1) != ((t115.length : Int) == 6)) = true then (none) else (laws_FnWordsOfRolls.l0 k l1 t111 t115 (t115.length : Int) 0)) else (none))) else (none)) else (none)) else (none)) else (none)) else (none))) else (none)) else (none)) else (none)) else (none)))))) else (laws_FnWordsOfRolls.j1 k l1)))))) = some r := H
                      have A25 := Aside0.mk A250
                      clear A250
                      by_cases c26 : (t124 != t125) = true
                      · rw [if_pos c26] at H
                        exact absurd H (by simp)
                      · rw [if_neg c26] at H
                        have c26b0 : (t124 != t125) = false := by simpa using c26
                        (try (have c26b1 : decide (t124 = t125) = true := by simpa using c26))
                        (try (have c26b2 : (t124 == t125) = true := by simpa using c26))
                        clear c26
                        by_cases c27 : (t108 != t104) = true
                        · rw [if_pos c27] at H
                          exact absurd H (by simp)
                        · rw [if_neg c27] at H
                          have c27b0 : (t108 != t104) = false := by simpa using c27
                          (try (have c27b1 : decide (t108 = t104) = true := by simpa using c27))
                          (try (have c27b2 : (t108 == t104) = true := by simpa using c27))
                          clear c27
                          by_cases c28 : (t112 != t104) = true
                          · rw [if_pos c28] at H
                            exact absurd H (by simp)
                          · rw [if_neg c28] at H
                            have c28b0 : (t112 != t104) = false := by simpa using c28
                            (try (have c28b1 : decide (t112 = t104) = true := by simpa using c28))
                            (try (have c28b2 : (t112 == t104) = true := by simpa using c28))
                            clear c28
                            by_cases c29 : (t116 != t104) = true
                            · rw [if_pos c29] at H
                              exact absurd H (by simp)
                            · rw [if_neg c29] at H
                              have c29b0 : (t116 != t104) = false := by simpa using c29
                              (try (have c29b1 : decide (t116 = t104) = true := by simpa using c29))
                              (try (have c29b2 : (t116 == t104) = true := by simpa using c29))
                              clear c29
                              have HC30 := Aside0.mk H
                              clear H
                              go_enter Tryd.func4, Tryd.ntmps4
                              go_upto_if 158 with (first | ((with_reducible refine gate_callee (f := 7) rfl ?_); refine goesL_ (some 48) rfl rfl Tryd.func7 (by kernel_rfl) rfl #[.slice A0 l0.length c0, .slice A1 l1.length c1] rfl (by (try simp only [List.map_toArray, List.map_cons, List.map_nil]); first | done | rfl | (simp only [List.length_drop, List.length_take]; rfl)) ?_; (with_reducible refine (laws_big.calls _ _ l0 _ _ l1 false _ ?side1 ?side2 ?side3 ?side4 A3.out).mono ?_); (case side1 => repeat (first | exact HR0.out | (with_reducible refine Kd.C_alloc ?_ _) | (with_reducible refine Kd.C_drewN ?_ _) | (with_reducible refine Kd.C_drew ?_))); (case side2 => exact HC0.out); (case side3 => repeat (first | exact HR1.out | (with_reducible refine Kd.C_alloc ?_ _) | (with_reducible refine Kd.C_drewN ?_ _) | (with_reducible refine Kd.C_drew ?_))); (case side4 => exact HC1.out); rintro e w' ⟨rfl, ⟨nd, rfl⟩⟩; refine ⟨_, rfl, ?_⟩) | ((with_reducible refine gate_callee (f := 8) rfl ?_); refine goesL_ (some 50) rfl rfl Tryd.func8 (by kernel_rfl) rfl #[.slice A0 l0.length c0] rfl (by (try simp only [List.map_toArray, List.map_cons, List.map_nil]); first | done | rfl | (simp only [List.length_drop, List.length_take]; rfl)) ?_; (with_reducible refine (spec_DrawShortestRolls.calls k _ _ l0 t102 _ ?side1 ?side2 A5.out).mono ?_); (case side1 => repeat (first | exact HR0.out | (with_reducible refine Kd.C_alloc ?_ _) | (with_reducible refine Kd.C_drewN ?_ _) | (with_reducible refine Kd.C_drew ?_))); (case side2 => exact HC0.out); rintro e w31 ⟨rfl, hb⟩; refine ⟨_, rfl, ?_⟩; have n0_ := Aside0.mk (below_step (by repeat (first | (with_reducible first | exact HB.out | apply below_alloc | apply pw_below_drewN | apply below_drew1) | exact HB.out)) hb); clear HB; have HB := n0_; clear n0_; (try clear hb); (try clear hb2); (try clear hk); (try clear hi)) | ((with_reducible refine gate_callee (f := 9) rfl ?_); refine goesL_ (some 53) rfl rfl Tryd.func9 (by kernel_rfl) rfl #[.string t102] rfl (by (try simp only [List.map_toArray, List.map_cons, List.map_nil]); first | done | rfl | (simp only [List.length_drop, List.length_take]; rfl)) ?_; (with_reducible refine (impl_ShortestRolls.calls k t102 t103 t104 _ A6.out).mono ?_); rintro e w32 ⟨rfl, hb⟩; refine ⟨_, rfl, ?_⟩; have n0_ := Aside0.mk (below_step (by repeat (first | (with_reducible first | exact HB.out | apply below_alloc | apply pw_below_drewN | apply below_drew1) | exact HB.out)) hb); clear HB; have HB := n0_; clear n0_; (try clear hb); (try clear hb2); (try clear hk); (try clear hi)) | ((with_reducible refine gate_callee (f := 10) rfl ?_); refine goesL_ (some 58) rfl rfl Tryd.func10 (by kernel_rfl) rfl #[.string t102] rfl (by (try simp only [List.map_toArray, List.map_cons, List.map_nil]); first | done | rfl | (simp only [List.length_drop, List.length_take]; rfl)) ?_; (with_reducible refine (spec_ShortestRolls.calls k t102 t105 t106 _ A7.out).mono ?_); rintro e w33 ⟨rfl, hb⟩; refine ⟨_, rfl, ?_⟩; have n0_ := Aside0.mk (below_step (by repeat (first | (with_reducible first | exact HB.out | apply below_alloc | apply pw_below_drewN | apply below_drew1) | exact HB.out)) hb); clear HB; have HB := n0_; clear n0_; (try clear hb); (try clear hb2); (try clear hk); (try clear hi)) | ((with_reducible refine gate_callee (f := 11) rfl ?_); refine goesL_ (some 63) rfl rfl Tryd.func11 (by kernel_rfl) rfl #[.string t102] rfl (by (try simp only [List.map_toArray, List.map_cons, List.map_nil]); first | done | rfl | (simp only [List.length_drop, List.length_take]; rfl)) ?_; (with_reducible refine (impl_BackWord.calls t102 t107 t108 _ A8.out).mono ?_); rintro e w34 ⟨rfl, hb⟩; refine ⟨_, rfl, ?_⟩; have n0_ := Aside0.mk (below_step (by repeat (first | (with_reducible first | exact HB.out | apply below_alloc | apply pw_below_drewN | apply below_drew1) | exact HB.out)) hb); clear HB; have HB := n0_; clear n0_; (try clear hb); (try clear hb2); (try clear hk); (try clear hi)) | ((with_reducible refine gate_callee (f := 12) rfl ?_); refine goesL_ (some 68) rfl rfl Tryd.func12 (by kernel_rfl) rfl #[.string t102] rfl (by (try simp only [List.map_toArray, List.map_cons, List.map_nil]); first | done | rfl | (simp only [List.length_drop, List.length_take]; rfl)) ?_; (with_reducible refine (spec_BackWord.calls k t102 t109 t110 _ A9.out).mono ?_); rintro e w' ⟨rfl, ⟨nd, rfl⟩⟩; refine ⟨_, rfl, ?_⟩) | ((with_reducible refine gate_callee (f := 13) rfl ?_); refine goesL_ (some 73) rfl rfl Tryd.func13 (by kernel_rfl) rfl #[.string t102] rfl (by (try simp only [List.map_toArray, List.map_cons, List.map_nil]); first | done | rfl | (simp only [List.length_drop, List.length_take]; rfl)) ?_; (with_reducible refine (impl_OrderOfRolls.calls k t102 t111 t112 _ A10.out).mono ?_); rintro e w35 ⟨rfl, hb⟩; refine ⟨_, rfl, ?_⟩; have n0_ := Aside0.mk (below_step (by repeat (first | (with_reducible first | exact HB.out | apply below_alloc | apply pw_below_drewN | apply below_drew1) | exact HB.out)) hb); clear HB; have HB := n0_; clear n0_; (try clear hb); (try clear hb2); (try clear hk); (try clear hi)) | ((with_reducible refine gate_callee (f := 14) rfl ?_); refine goesL_ (some 78) rfl rfl Tryd.func14 (by kernel_rfl) rfl #[.string t102] rfl (by (try simp only [List.map_toArray, List.map_cons, List.map_nil]); first | done | rfl | (simp only [List.length_drop, List.length_take]; rfl)) ?_; (with_reducible refine (spec_OrderOfRolls.calls k t102 t113 t114 _ A11.out).mono ?_); rintro e w36 ⟨rfl, hb⟩; refine ⟨_, rfl, ?_⟩; have n0_ := Aside0.mk (below_step (by repeat (first | (with_reducible first | exact HB.out | apply below_alloc | apply pw_below_drewN | apply below_drew1) | exact HB.out)) hb); clear HB; have HB := n0_; clear n0_; (try clear hb); (try clear hb2); (try clear hk); (try clear hi)) | ((with_reducible refine gate_callee (f := 15) rfl ?_); refine goesL_ (some 83) rfl rfl Tryd.func15 (by kernel_rfl) rfl #[.string t102] rfl (by (try simp only [List.map_toArray, List.map_cons, List.map_nil]); first | done | rfl | (simp only [List.length_drop, List.length_take]; rfl)) ?_; (with_reducible refine (impl_FaceCycles.calls k t102 t115 t116 _ A12.out).mono ?_); rintro e w37 ⟨v117, rfl, ho0, hb⟩; refine ⟨_, rfl, ?_⟩; have n0_ := Aside0.mk (Kd.R_lower ho0 (below_size (by repeat (first | (with_reducible first | exact HB.out | apply below_alloc | apply pw_below_drewN | apply below_drew1) | exact HB.out)))); have n1_ := Aside0.mk (below_step (by repeat (first | (with_reducible first | exact HB.out | apply below_alloc | apply pw_below_drewN | apply below_drew1) | exact HB.out)) hb); clear HB; have HO118 := n0_; have HB := n1_; clear n0_ n1_; (try clear hb); (try clear hb2); (try clear hk); (try clear hi); (try clear ho0)) | ((with_reducible refine gate_callee (f := 16) rfl ?_); refine goesL_ (some 88) rfl rfl Tryd.func16 (by kernel_rfl) rfl #[.string t102] rfl (by (try simp only [List.map_toArray, List.map_cons, List.map_nil]); first | done | rfl | (simp only [List.length_drop, List.length_take]; rfl)) ?_; (with_reducible refine (spec_FaceCycles.calls k t102 t119 t120 _ A13.out).mono ?_); rintro e w38 ⟨v121, rfl, ho0, hb⟩; refine ⟨_, rfl, ?_⟩; have n0_ := Aside0.mk (Kd.R_elder' (by (with_reducible repeat (first | apply Kd.R_alloc | apply Kd.R_drewN | apply Kd.R_drew)); exact HO118.out) (Kd.R_base ho0) hb); have n1_ := Aside0.mk (Kd.R_lower (Kd.R_new' ho0 (Kd.R_lt (by (with_reducible repeat (first | apply Kd.R_alloc | apply Kd.R_drewN | apply Kd.R_drew)); exact HO118.out))) (below_size (by repeat (first | (with_reducible first | exact HB.out | apply below_alloc | apply pw_below_drewN | apply below_drew1) | exact HB.out)))); have n2_ := Aside0.mk (below_step (by repeat (first | (with_reducible first | exact HB.out | apply below_alloc | apply pw_below_drewN | apply below_drew1) | exact HB.out)) hb); clear HO118; clear HB; have HO118 := n0_; have HO122 := n1_; have HB := n2_; clear n0_ n1_ n2_; (try clear hb); (try clear hb2); (try clear hk); (try clear hi); (try clear ho0); obtain ⟨Ao39, co39, eo39⟩ := Kd.R_slice HO118.out; subst eo39; obtain ⟨Ao40, co40, eo40⟩ := Kd.R_slice HO122.out; subst eo40) | (go_at_call 17; (with_reducible refine (laws_jSame.calls k _ _ t115 _ _ t119 true _ ?side1 ?side2 ?side3 ?side4 A21.out).mono ?_); (case side1 => repeat (first | exact (Kd.R_reads' HO118.out).2.2 | (with_reducible refine Kd.C_alloc ?_ _) | (with_reducible refine Kd.C_drewN ?_ _) | (with_reducible refine Kd.C_drew ?_))); (case side2 => exact (Kd.R_reads' HO118.out).2.1); (case side3 => repeat (first | exact (Kd.R_reads' HO122.out).2.2 | (with_reducible refine Kd.C_alloc ?_ _) | (with_reducible refine Kd.C_drewN ?_ _) | (with_reducible refine Kd.C_drew ?_))); (case side4 => exact (Kd.R_reads' HO122.out).2.1); rintro e w' ⟨rfl, ⟨nd, rfl⟩⟩) | (go_at_call 18; (with_reducible refine (impl_IsRolls.calls t102 t124 _ A23.out).mono ?_); rintro e w41 ⟨rfl, hb⟩; have n0_ := Aside0.mk (Kd.R_below (by (with_reducible repeat (first | apply Kd.R_alloc | apply Kd.R_drewN | apply Kd.R_drew)); exact HO118.out) hb); have n1_ := Aside0.mk (Kd.R_below (by (with_reducible repeat (first | apply Kd.R_alloc | apply Kd.R_drewN | apply Kd.R_drew)); exact HO122.out) hb); have n2_ := Aside0.mk (below_step (by repeat (first | (with_reducible first | exact HB.out | apply below_alloc | apply pw_below_drewN | apply below_drew1) | exact HB.out)) hb); clear HO118; clear HO122; clear HB; have HO118 := n0_; have HO122 := n1_; have HB := n2_; clear n0_ n1_ n2_; (try clear hb); (try clear hb2); (try clear hk); (try clear hi)) | (go_at_call 19; (with_reducible refine (spec_IsRolls.calls k t102 t125 _ A25.out).mono ?_); rintro e w' ⟨rfl, ⟨nd, rfl⟩⟩))
                              (try simp only [Act.put, List.setIfInBounds_toArray, List.set_cons_zero, List.set_cons_succ])
                              go_cut [] (fun wc => ∃ (kq : Nat), Aside0 (laws_FnWordsOfRolls.j1 kq l1 = some r) ∧ Aside0 (kq ≤ k) ∧ Aside0 (Below w.heap.size w wc))
                              case first =>
                                have H := HC30.out
                                clear HC30
                                by_cases c42 : t104 = true
                                · subst c42
                                  have H1 : ((impl_AreSameRolls.f k t102 t103).bind fun bt126 => ((impl_ShortestRolls.f k t103).bind fun bt128 => ((impl_BackWord.f t107).bind fun bt130 => ((impl_OrderOfRolls.f k t107).bind fun bt132 => (if bt126.2 = true then (if bt126.1 = true then (if bt128.2 = true then (if bt128.1.toList = t103.toList then (if (t103.size : Int) > (t102.size : Int) then (none) else (if ((t103.size : Int) % 2) = ((t102.size : Int) % 2) then (if bt130.2 = true then (if bt130.1.toList = t102.toList then (if bt132.2 = true then (if bt132.1 = t111 then ((laws_jSum.f k t115).bind fun t134 => (if t134 = 6 then (if ((t111 == 1) != ((t115.length : Int) == 6)) = true then (none) else (laws_FnWordsOfRolls.l0 k l1 t111 t115 (t115.length : Int) 0)) else (none))) else (none)) else (none)) else (none)) else (none)) else (none))) else (none)) else (none)) else (none)) else (none)))))) = some r := by rw [if_pos rfl] at H; exact H
                                  clear H
                                  have H := H1
                                  clear H1
                                  replace H := Option.bind_eq_some_iff.mp H
                                  obtain ⟨⟨t126, t127⟩, A430, H⟩ := H
                                  replace H : ((impl_ShortestRolls.f k t103).bind fun bt128 => ((impl_BackWord.f t107).bind fun bt130 => ((impl_OrderOfRolls.f k t107).bind fun bt132 => (if t127 = true then (if t126 = true then (if bt128.2 = true then (if bt128.1.toList = t103.toList then (if (t103.size : Int) > (t102.size : Int) then (none) else (if ((t103.size : Int) % 2) = ((t102.size : Int) % 2) then (if bt130.2 = true then (if bt130.1.toList = t102.toList then (if bt132.2 = true then (if bt132.1 = t111 then ((laws_jSum.f k t115).bind fun t134 => (if t134 = 6 then (if ((t111 == 1) != ((t115.length : Int) == 6)) = true then (none) else (laws_FnWordsOfRolls.l0 k l1 t111 t115 (t115.length : Int) 0)) else (none))) else (none)) else (none)) else (none)) else (none)) else (none))) else (none)) else (none)) else (none)) else (none))))) = some r := H
                                  have A43 := Aside0.mk A430
                                  clear A430
                                  replace H := Option.bind_eq_some_iff.mp H
                                  obtain ⟨⟨t128, t129⟩, A440, H⟩ := H
                                  replace H : ((impl_BackWord.f t107).bind fun bt130 => ((impl_OrderOfRolls.f k t107).bind fun bt132 => (if t127 = true then (if t126 = true then (if t129 = true then (if t128.toList = t103.toList then (if (t103.size : Int) > (t102.size : Int) then (none) else (if ((t103.size : Int) % 2) = ((t102.size : Int) % 2) then (if bt130.2 = true then (if bt130.1.toList = t102.toList then (if bt132.2 = true then (if bt132.1 = t111 then ((laws_jSum.f k t115).bind fun t134 => (if t134 = 6 then (if ((t111 == 1) != ((t115.length : Int) == 6)) = true then (none) else (laws_FnWordsOfRolls.l0 k l1 t111 t115 (t115.length : Int) 0)) else (none))) else (none)) else (none)) else (none)) else (none)) else (none))) else (none)) else (none)) else (none)) else (none)))) = some r := H
                                  have A44 := Aside0.mk A440
                                  clear A440
                                  replace H := Option.bind_eq_some_iff.mp H
                                  obtain ⟨⟨t130, t131⟩, A450, H⟩ := H
                                  replace H : ((impl_OrderOfRolls.f k t107).bind fun bt132 => (if t127 = true then (if t126 = true then (if t129 = true then (if t128.toList = t103.toList then (if (t103.size : Int) > (t102.size : Int) then (none) else (if ((t103.size : Int) % 2) = ((t102.size : Int) % 2) then (if t131 = true then (if t130.toList = t102.toList then (if bt132.2 = true then (if bt132.1 = t111 then ((laws_jSum.f k t115).bind fun t134 => (if t134 = 6 then (if ((t111 == 1) != ((t115.length : Int) == 6)) = true then (none) else (laws_FnWordsOfRolls.l0 k l1 t111 t115 (t115.length : Int) 0)) else (none))) else (none)) else (none)) else (none)) else (none)) else (none))) else (none)) else (none)) else (none)) else (none))) = some r := H
                                  have A45 := Aside0.mk A450
                                  clear A450
                                  replace H := Option.bind_eq_some_iff.mp H
                                  obtain ⟨⟨t132, t133⟩, A460, H⟩ := H
                                  replace H : (if t127 = true then (if t126 = true then (if t129 = true then (if t128.toList = t103.toList then (if (t103.size : Int) > (t102.size : Int) then (none) else (if ((t103.size : Int) % 2) = ((t102.size : Int) % 2) then (if t131 = true then (if t130.toList = t102.toList then (if t133 = true then (if t132 = t111 then ((laws_jSum.f k t115).bind fun t134 => (if t134 = 6 then (if ((t111 == 1) != ((t115.length : Int) == 6)) = true then (none) else (laws_FnWordsOfRolls.l0 k l1 t111 t115 (t115.length : Int) 0)) else (none))) else (none)) else (none)) else (none)) else (none)) else (none))) else (none)) else (none)) else (none)) else (none)) = some r := H
                                  have A46 := Aside0.mk A460
                                  clear A460
                                  by_cases c47 : t127 = true
                                  · subst c47
                                    have H1 : (if t126 = true then (if t129 = true then (if t128.toList = t103.toList then (if (t103.size : Int) > (t102.size : Int) then (none) else (if ((t103.size : Int) % 2) = ((t102.size : Int) % 2) then (if t131 = true then (if t130.toList = t102.toList then (if t133 = true then (if t132 = t111 then ((laws_jSum.f k t115).bind fun t134 => (if t134 = 6 then (if ((t111 == 1) != ((t115.length : Int) == 6)) = true then (none) else (laws_FnWordsOfRolls.l0 k l1 t111 t115 (t115.length : Int) 0)) else (none))) else (none)) else (none)) else (none)) else (none)) else (none))) else (none)) else (none)) else (none)) = some r := by rw [if_pos rfl] at H; exact H
                                    clear H
                                    have H := H1
                                    clear H1
                                    by_cases c48 : t126 = true
                                    · subst c48
                                      have H1 : (if t129 = true then (if t128.toList = t103.toList then (if (t103.size : Int) > (t102.size : Int) then (none) else (if ((t103.size : Int) % 2) = ((t102.size : Int) % 2) then (if t131 = true then (if t130.toList = t102.toList then (if t133 = true then (if t132 = t111 then ((laws_jSum.f k t115).bind fun t134 => (if t134 = 6 then (if ((t111 == 1) != ((t115.length : Int) == 6)) = true then (none) else (laws_FnWordsOfRolls.l0 k l1 t111 t115 (t115.length : Int) 0)) else (none))) else (none)) else (none)) else (none)) else (none)) else (none))) else (none)) else (none)) = some r := by rw [if_pos rfl] at H; exact H
                                      clear H
                                      have H := H1
                                      clear H1
                                      by_cases c49 : t129 = true
                                      · subst c49
                                        have H1 : (if t128.toList = t103.toList then (if (t103.size : Int) > (t102.size : Int) then (none) else (if ((t103.size : Int) % 2) = ((t102.size : Int) % 2) then (if t131 = true then (if t130.toList = t102.toList then (if t133 = true then (if t132 = t111 then ((laws_jSum.f k t115).bind fun t134 => (if t134 = 6 then (if ((t111 == 1) != ((t115.length : Int) == 6)) = true then (none) else (laws_FnWordsOfRolls.l0 k l1 t111 t115 (t115.length : Int) 0)) else (none))) else (none)) else (none)) else (none)) else (none)) else (none))) else (none)) = some r := by rw [if_pos rfl] at H; exact H
                                        clear H
                                        have H := H1
                                        clear H1
                                        by_cases c50 : t128.toList = t103.toList
                                        · rw [if_pos c50] at H
                                          have c50b0 : (t128.toList == t103.toList) = true := beq_iff_eq.mpr c50
                                          have c50b1 : (t128.toList != t103.toList) = false := bne_eq_false_iff_eq.mpr c50
                                          clear c50
                                          (first | rw [c50b0] | (simp only [i64_w, i32_w]; rw [c50b0]) | skip)
                                          by_cases c51 : (t103.size : Int) > (t102.size : Int)
                                          · rw [if_pos c51] at H
                                            exact absurd H (by simp)
                                          · rw [if_neg c51] at H
                                            have c51b0 : decide ((t102.size : Int) < (t103.size : Int)) = false := decide_eq_false c51
                                            have c51b1 : decide (t102.size < t103.size) = false := decide_eq_false (fun h => c51 (Int.ofNat_lt.mpr h))
                                            clear c51
                                            by_cases c52 : ((t103.size : Int) % 2) = ((t102.size : Int) % 2)
                                            · rw [if_pos c52] at H
                                              have c52b0 : (((t103.size : Int) % 2) == ((t102.size : Int) % 2)) = true := beq_iff_eq.mpr c52
                                              have c52b1 : (((t103.size : Int) % 2) != ((t102.size : Int) % 2)) = false := bne_eq_false_iff_eq.mpr c52
                                              clear c52
                                              by_cases c53 : t131 = true
                                              · subst c53
                                                have H1 : (if t130.toList = t102.toList then (if t133 = true then (if t132 = t111 then ((laws_jSum.f k t115).bind fun t134 => (if t134 = 6 then (if ((t111 == 1) != ((t115.length : Int) == 6)) = true then (none) else (laws_FnWordsOfRolls.l0 k l1 t111 t115 (t115.length : Int) 0)) else (none))) else (none)) else (none)) else (none)) = some r := by rw [if_pos rfl] at H; exact H
                                                clear H
                                                have H := H1
                                                clear H1
                                                by_cases c54 : t130.toList = t102.toList
                                                · rw [if_pos c54] at H
                                                  have c54b0 : (t130.toList == t102.toList) = true := beq_iff_eq.mpr c54
                                                  have c54b1 : (t130.toList != t102.toList) = false := bne_eq_false_iff_eq.mpr c54
                                                  clear c54
                                                  by_cases c55 : t133 = true
                                                  · subst c55
                                                    have H1 : (if t132 = t111 then ((laws_jSum.f k t115).bind fun t134 => (if t134 = 6 then (if ((t111 == 1) != ((t115.length : Int) == 6)) = true then (none) else (laws_FnWordsOfRolls.l0 k l1 t111 t115 (t115.length : Int) 0)) else (none))) else (none)) = some r := by rw [if_pos rfl] at H; exact H
                                                    clear H
                                                    have H := H1
                                                    clear H1
                                                    by_cases c56 : t132 = t111
                                                    · rw [if_pos c56] at H
                                                      have c56b0 : (t132 == t111) = true := beq_iff_eq.mpr c56
                                                      have c56b1 : (t132 != t111) = false := bne_eq_false_iff_eq.mpr c56
                                                      clear c56
                                                      replace H := Option.bind_eq_some_iff.mp H
                                                      obtain ⟨t134, A570, H⟩ := H
                                                      replace H : (if t134 = 6 then (if ((t111 == 1) != ((t115.length : Int) == 6)) = true then (none) else (laws_FnWordsOfRolls.l0 k l1 t111 t115 (t115.length : Int) 0)) else (none)) = some r := H
                                                      have A57 := Aside0.mk A570
                                                      clear A570
                                                      by_cases c58 : t134 = 6
                                                      · rw [if_pos c58] at H
                                                        have c58b0 : (t134 == 6) = true := beq_iff_eq.mpr c58
                                                        have c58b1 : (t134 != 6) = false := bne_eq_false_iff_eq.mpr c58
                                                        clear c58
                                                        by_cases c59 : ((t111 == 1) != ((t115.length : Int) == 6)) = true
                                                        · rw [if_pos c59] at H
                                                          exact absurd H (by simp)
                                                        · rw [if_neg c59] at H
                                                          have c59b0 : ((t111 == 1) != ((t115.length : Int) == 6)) = false := by simpa using c59
                                                          (try (have c59b1 : decide ((t111 == 1) = ((t115.length : Int) == 6)) = true := by simpa using c59))
                                                          (try (have c59b2 : ((t111 == 1) == ((t115.length : Int) == 6)) = true := by simpa using c59))
                                                          clear c59
                                                          have H' := Aside0.mk H
                                                          clear H
                                                          go_wp2_with (first | ((with_reducible refine gate_callee (f := 20) rfl ?_); refine goesL_ (some 162) rfl rfl Tryd.func20 (by kernel_rfl) rfl #[.string t102, .string t103] rfl (by (try simp only [List.map_toArray, List.map_cons, List.map_nil]); first | done | rfl | (simp only [List.length_drop, List.length_take]; rfl)) ?_; (with_reducible refine (impl_AreSameRolls.calls k t102 t103 true true _ A43.out).mono ?_); rintro e w60 ⟨rfl, hb⟩; refine ⟨_, rfl, ?_⟩; have n0_ := Aside0.mk (Kd.R_below (by (with_reducible repeat (first | apply Kd.R_alloc | apply Kd.R_drewN | apply Kd.R_drew)); exact HO118.out) hb); have n1_ := Aside0.mk (Kd.R_below (by (with_reducible repeat (first | apply Kd.R_alloc | apply Kd.R_drewN | apply Kd.R_drew)); exact HO122.out) hb); have n2_ := Aside0.mk (below_step (by repeat (first | (with_reducible first | exact HB.out | apply below_alloc | apply pw_below_drewN | apply below_drew1) | exact HB.out)) hb); clear HO118; clear HO122; clear HB; have HO118 := n0_; have HO122 := n1_; have HB := n2_; clear n0_ n1_ n2_; (try clear hb); (try clear hb2); (try clear hk); (try clear hi)) | ((with_reducible refine gate_callee (f := 9) rfl ?_); refine goesL_ (some 167) rfl rfl Tryd.func9 (by kernel_rfl) rfl #[.string t103] rfl (by (try simp only [List.map_toArray, List.map_cons, List.map_nil]); first | done | rfl | (simp only [List.length_drop, List.length_take]; rfl)) ?_; (with_reducible refine (impl_ShortestRolls.calls k t103 t128 true _ A44.out).mono ?_); rintro e w61 ⟨rfl, hb⟩; refine ⟨_, rfl, ?_⟩; have n0_ := Aside0.mk (Kd.R_below (by (with_reducible repeat (first | apply Kd.R_alloc | apply Kd.R_drewN | apply Kd.R_drew)); exact HO118.out) hb); have n1_ := Aside0.mk (Kd.R_below (by (with_reducible repeat (first | apply Kd.R_alloc | apply Kd.R_drewN | apply Kd.R_drew)); exact HO122.out) hb); have n2_ := Aside0.mk (below_step (by repeat (first | (with_reducible first | exact HB.out | apply below_alloc | apply pw_below_drewN | apply below_drew1) | exact HB.out)) hb); clear HO118; clear HO122; clear HB; have HO118 := n0_; have HO122 := n1_; have HB := n2_; clear n0_ n1_ n2_; (try clear hb); (try clear hb2); (try clear hk); (try clear hi)) | ((with_reducible refine gate_callee (f := 11) rfl ?_); refine goesL_ (some 172) rfl rfl Tryd.func11 (by kernel_rfl) rfl #[.string t107] rfl (by (try simp only [List.map_toArray, List.map_cons, List.map_nil]); first | done | rfl | (simp only [List.length_drop, List.length_take]; rfl)) ?_; (with_reducible refine (impl_BackWord.calls t107 t130 true _ A45.out).mono ?_); rintro e w62 ⟨rfl, hb⟩; refine ⟨_, rfl, ?_⟩; have n0_ := Aside0.mk (Kd.R_below (by (with_reducible repeat (first | apply Kd.R_alloc | apply Kd.R_drewN | apply Kd.R_drew)); exact HO118.out) hb); have n1_ := Aside0.mk (Kd.R_below (by (with_reducible repeat (first | apply Kd.R_alloc | apply Kd.R_drewN | apply Kd.R_drew)); exact HO122.out) hb); have n2_ := Aside0.mk (below_step (by repeat (first | (with_reducible first | exact HB.out | apply below_alloc | apply pw_below_drewN | apply below_drew1) | exact HB.out)) hb); clear HO118; clear HO122; clear HB; have HO118 := n0_; have HO122 := n1_; have HB := n2_; clear n0_ n1_ n2_; (try clear hb); (try clear hb2); (try clear hk); (try clear hi)) | ((with_reducible refine gate_callee (f := 13) rfl ?_); refine goesL_ (some 177) rfl rfl Tryd.func13 (by kernel_rfl) rfl #[.string t107] rfl (by (try simp only [List.map_toArray, List.map_cons, List.map_nil]); first | done | rfl | (simp only [List.length_drop, List.length_take]; rfl)) ?_; (with_reducible refine (impl_OrderOfRolls.calls k t107 t132 true _ A46.out).mono ?_); rintro e w63 ⟨rfl, hb⟩; refine ⟨_, rfl, ?_⟩; have n0_ := Aside0.mk (Kd.R_below (by (with_reducible repeat (first | apply Kd.R_alloc | apply Kd.R_drewN | apply Kd.R_drew)); exact HO118.out) hb); have n1_ := Aside0.mk (Kd.R_below (by (with_reducible repeat (first | apply Kd.R_alloc | apply Kd.R_drewN | apply Kd.R_drew)); exact HO122.out) hb); have n2_ := Aside0.mk (below_step (by repeat (first | (with_reducible first | exact HB.out | apply below_alloc | apply pw_below_drewN | apply below_drew1) | exact HB.out)) hb); clear HO118; clear HO122; clear HB; have HO118 := n0_; have HO122 := n1_; have HB := n2_; clear n0_ n1_ n2_; (try clear hb); (try clear hb2); (try clear hk); (try clear hi)) | (go_at_call 21; (with_reducible refine (laws_jSum.calls k _ _ t115 t134 _ ?side1 ?side2 A57.out).mono ?_); (case side1 => repeat (first | exact (Kd.R_reads' HO118.out).2.2 | (with_reducible refine Kd.C_alloc ?_ _) | (with_reducible refine Kd.C_drewN ?_ _) | (with_reducible refine Kd.C_drew ?_))); (case side2 => exact (Kd.R_reads' HO118.out).2.1); rintro e w' ⟨rfl, ⟨nd, rfl⟩⟩))
                                                          go_loopg [244] k (fun kq v244 w' => ∃ (x244_1 : Int), v244 = .int .i64 x244_1 ∧ Aside0 (laws_FnWordsOfRolls.l0 kq l1 t111 t115 (t115.length : Int) x244_1 = some r) ∧ Aside0 (kq ≤ k) ∧ Aside0 (Kd.R (Kd.int .i64) 3 w' w.heap.size (fun _ => True) (.slice Ao39 t115.length co39) t115) ∧ Aside0 (Below w.heap.size w w'))
                                                          case atStart => exact ⟨(0), (by first | rfl | (simp; done) | (simp [*]; done)), H', ⟨Nat.le_refl _⟩, ⟨by (with_reducible repeat (first | apply Kd.R_alloc | apply Kd.R_drewN | apply Kd.R_drew)); exact Kd.R_mono HO118.out (fun _ hk => trivial)⟩, ⟨by repeat (first | (with_reducible first | exact HB.out | apply below_alloc | apply pw_below_drewN | apply below_drew1) | exact HB.out)⟩⟩
                                                          case round =>
                                                            clear H'
                                                            try clear c1
                                                            try clear c2
                                                            try clear p2
                                                            try clear c4
                                                            try clear c5
                                                            try clear c7
                                                            try clear c8
                                                            try clear c9
                                                            try clear c10
                                                            try clear c11
                                                            try clear c12
                                                            try clear c13
                                                            try clear c14
                                                            try clear c14b0
                                                            try clear c14b1
                                                            try clear c14b2
                                                            try clear c15
                                                            try clear c15b0
                                                            try clear c15b1
                                                            try clear c16
                                                            try clear c16b0
                                                            try clear c16b1
                                                            try clear c16b2
                                                            try clear c17
                                                            try clear c17b0
                                                            try clear c17b1
                                                            try clear c18
                                                            try clear c18b0
                                                            try clear c18b1
                                                            try clear c18b2
                                                            try clear c19
                                                            try clear c19b0
                                                            try clear c19b1
                                                            try clear c20
                                                            try clear c20b0
                                                            try clear c20b1
                                                            try clear c20b2
                                                            try clear c22
                                                            try clear c24
                                                            try clear c24b0
                                                            try clear c24b1
                                                            try clear c24b2
                                                            try clear c26
                                                            try clear c26b0
                                                            try clear c26b1
                                                            try clear c26b2
                                                            try clear c27
                                                            try clear c27b0
                                                            try clear c27b1
                                                            try clear c27b2
                                                            try clear c28
                                                            try clear c28b0
                                                            try clear c28b1
                                                            try clear c28b2
                                                            try clear c29
                                                            try clear c29b0
                                                            try clear c29b1
                                                            try clear c29b2
                                                            try clear c42
                                                            try clear c47
                                                            try clear c48
                                                            try clear c49
                                                            try clear c50
                                                            try clear c50b0
                                                            try clear c50b1
                                                            try clear c51
                                                            try clear c51b0
                                                            try clear c51b1
                                                            try clear c52
                                                            try clear c52b0
                                                            try clear c52b1
                                                            try clear c53
                                                            try clear c54
                                                            try clear c54b0
                                                            try clear c54b1
                                                            try clear c55
                                                            try clear c56
                                                            try clear c56b0
                                                            try clear c56b1
                                                            try clear c58
                                                            try clear c58b0
                                                            try clear c58b1
                                                            try clear c59
                                                            try clear c59b0
                                                            try clear c59b1
                                                            try clear c59b2
                                                            obtain ⟨x244_1, rfl, HA, HK1, HO_18, HB⟩ := hrel
                                                            cases gk with
                                                            | zero => exact absurd HA.out (by simp [laws_FnWordsOfRolls.l0])
                                                            | succ k1 =>
                                                              have H := HA.out
                                                              clear HA
                                                              simp only [laws_FnWordsOfRolls.l0] at H
                                                              by_cases c64 : x244_1 < (t115.length : Int)
                                                              · rw [if_pos c64] at H
                                                                have c64b0 : decide (x244_1 < (t115.length : Int)) = true := decide_eq_true c64
                                                                clear c64
                                                                by_cases c65 : 0 ≤ x244_1
                                                                · rw [if_pos c65] at H
                                                                  have c65b0 : decide (0 ≤ x244_1) = true := decide_eq_true c65
                                                                  clear c65
                                                                  by_cases c66 : x244_1 < (t115.length : Int)
                                                                  · rw [if_pos c66] at H
                                                                    have c66b0 : decide (x244_1 < (t115.length : Int)) = true := decide_eq_true c66
                                                                    clear c66
                                                                    by_cases c67 : (rd t115 x244_1) = 0
                                                                    · rw [if_pos c67] at H
                                                                      exact absurd H (by simp)
                                                                    · rw [if_neg c67] at H
                                                                      have c67b0 : ((rd t115 x244_1) == 0) = false := beq_eq_false_iff_ne.mpr c67
                                                                      have c67b1 : ((rd t115 x244_1) != 0) = true := bne_iff_ne.mpr c67
                                                                      by_cases c68 : (Int.tmod t111 (rd t115 x244_1)) = 0
                                                                      · rw [if_pos c68] at H
                                                                        have c68b0 : ((Int.tmod t111 (rd t115 x244_1)) == 0) = true := beq_iff_eq.mpr c68
                                                                        have c68b1 : ((Int.tmod t111 (rd t115 x244_1)) != 0) = false := bne_eq_false_iff_eq.mpr c68
                                                                        clear c68
                                                                        by_cases c69 : x244_1 > 0
                                                                        · rw [if_pos c69] at H
                                                                          have c69b0 : decide (0 < x244_1) = true := decide_eq_true c69
                                                                          clear c69
                                                                          obtain ⟨ji70, hji70⟩ : ∃ j_ : Int, (wrap64 (x244_1 - 1)) = j_ := ⟨_, rfl⟩
                                                                          replace H : (if 0 ≤ (ji70) then (if (ji70) < (t115.length : Int) then (if (rd t115 (ji70)) > (rd t115 x244_1) then (none) else (laws_FnWordsOfRolls.l0 k1 l1 t111 t115 (t115.length : Int) (wrap64 (x244_1 + 1)))) else (none)) else (none)) = some r := by first | (rw [hji70] at H; exact H) | (simp only [hji70] at H ⊢; exact H)
                                                                          have hji70w : (IntKind.i64.wrap (x244_1 - 1)) = ji70 := (i64_w _).trans hji70
                                                                          by_cases c71 : 0 ≤ (ji70)
                                                                          · rw [if_pos c71] at H
                                                                            have c71b0 : decide (0 ≤ (ji70)) = true := decide_eq_true c71
                                                                            clear c71
                                                                            by_cases c72 : (ji70) < (t115.length : Int)
                                                                            · rw [if_pos c72] at H
                                                                              have c72b0 : decide ((ji70) < (t115.length : Int)) = true := decide_eq_true c72
                                                                              clear c72
                                                                              by_cases c73 : (rd t115 (ji70)) > (rd t115 x244_1)
                                                                              · rw [if_pos c73] at H
                                                                                exact absurd H (by simp)
                                                                              · rw [if_neg c73] at H
                                                                                have c73b0 : decide ((rd t115 x244_1) < (rd t115 (ji70))) = false := decide_eq_false c73
                                                                                clear c73
                                                                                have H' := Aside0.mk H
                                                                                clear H
                                                                                have p135 : 0 ≤ (x244_1 : Int) := of_decide_eq_true (by first | (with_reducible assumption) | assumption)
                                                                                have q135 : x244_1 < (t115.length : Int) := of_decide_eq_true (by first | (with_reducible assumption) | assumption)
                                                                                obtain ⟨ad135, e135, hx135_0⟩ := Kd.at_int (Kd.R_reads' HO_18.out).2.2 x244_1 p135 q135
                                                                                cases e135
                                                                                replace p135 := eq_true p135
                                                                                replace q135 := eq_true q135
                                                                                have p136 : 0 ≤ ((ji70) : Int) := of_decide_eq_true (by first | (with_reducible assumption) | assumption)
                                                                                have q136 : (ji70) < (t115.length : Int) := of_decide_eq_true (by first | (with_reducible assumption) | assumption)
                                                                                obtain ⟨ad136, e136, hx136_0⟩ := Kd.at_int (Kd.R_reads' HO_18.out).2.2 (ji70) p136 q136
                                                                                obtain rfl : ad135 = ad136 := (by injection e136)
                                                                                replace p136 := eq_true p136
                                                                                replace q136 := eq_true q136
                                                                                go_wp2
                                                                                go_roundg k1
                                                                                case measure => have := HK1.out; omega
                                                                                case rel => exact ⟨(wrap64 (x244_1 + 1)), (by first | rfl | (simp; done) | (simp [*]; done)), H', ⟨by have := HK1.out; omega⟩, ⟨by (with_reducible repeat (first | apply Kd.R_alloc | apply Kd.R_drewN | apply Kd.R_drew)); exact HO_18.out⟩, ⟨by repeat (first | (with_reducible first | exact HB.out | apply below_alloc | apply pw_below_drewN | apply below_drew1) | exact HB.out)⟩⟩
                                                                            · rw [if_neg c72] at H
                                                                              exact absurd H (by simp)
                                                                          · rw [if_neg c71] at H
                                                                            exact absurd H (by simp)
                                                                        · rw [if_neg c69] at H
                                                                          have c69b0 : decide (0 < x244_1) = false := decide_eq_false c69
                                                                          clear c69
                                                                          have H' := Aside0.mk H
                                                                          clear H
                                                                          have p135 : 0 ≤ (x244_1 : Int) := of_decide_eq_true (by first | (with_reducible assumption) | assumption)
                                                                          have q135 : x244_1 < (t115.length : Int) := of_decide_eq_true (by first | (with_reducible assumption) | assumption)
                                                                          obtain ⟨ad135, e135, hx135_0⟩ := Kd.at_int (Kd.R_reads' HO_18.out).2.2 x244_1 p135 q135
                                                                          cases e135
                                                                          replace p135 := eq_true p135
                                                                          replace q135 := eq_true q135
                                                                          go_wp2
                                                                          go_roundg k1
                                                                          case measure => have := HK1.out; omega
                                                                          case rel => exact ⟨(wrap64 (x244_1 + 1)), (by first | rfl | (simp; done) | (simp [*]; done)), H', ⟨by have := HK1.out; omega⟩, ⟨by (with_reducible repeat (first | apply Kd.R_alloc | apply Kd.R_drewN | apply Kd.R_drew)); exact HO_18.out⟩, ⟨by repeat (first | (with_reducible first | exact HB.out | apply below_alloc | apply pw_below_drewN | apply below_drew1) | exact HB.out)⟩⟩
                                                                      · rw [if_neg c68] at H
                                                                        exact absurd H (by simp)
                                                                  · rw [if_neg c66] at H
                                                                    exact absurd H (by simp)
                                                                · rw [if_neg c65] at H
                                                                  exact absurd H (by simp)
                                                              · rw [if_neg c64] at H
                                                                have c64b0 : decide (x244_1 < (t115.length : Int)) = false := decide_eq_false c64
                                                                clear c64
                                                                have H' := Aside0.mk H
                                                                clear H
                                                                go_wp2
                                                                go_meet
                                                                case rel => exact ⟨_, H', ⟨by have := HK1.out; first | omega | exact Nat.le_refl _⟩, ⟨by repeat (first | (with_reducible first | exact HB.out | apply below_alloc | apply pw_below_drewN | apply below_drew1) | exact HB.out)⟩⟩
                                                      · rw [if_neg c58] at H
                                                        exact absurd H (by simp)
                                                    · rw [if_neg c56] at H
                                                      exact absurd H (by simp)
                                                  · replace c55 := Bool.eq_false_iff.mpr c55
                                                    subst c55
                                                    have H1 : (none) = some r := by rw [if_neg (show ¬ (false = true) by decide)] at H; exact H
                                                    clear H
                                                    have H := H1
                                                    clear H1
                                                    exact absurd H (by simp)
                                                · rw [if_neg c54] at H
                                                  exact absurd H (by simp)
                                              · replace c53 := Bool.eq_false_iff.mpr c53
                                                subst c53
                                                have H1 : (none) = some r := by rw [if_neg (show ¬ (false = true) by decide)] at H; exact H
                                                clear H
                                                have H := H1
                                                clear H1
                                                exact absurd H (by simp)
                                            · rw [if_neg c52] at H
                                              exact absurd H (by simp)
                                        · rw [if_neg c50] at H
                                          exact absurd H (by simp)
                                      · replace c49 := Bool.eq_false_iff.mpr c49
                                        subst c49
                                        have H1 : (none) = some r := by rw [if_neg (show ¬ (false = true) by decide)] at H; exact H
                                        clear H
                                        have H := H1
                                        clear H1
                                        exact absurd H (by simp)
                                    · replace c48 := Bool.eq_false_iff.mpr c48
                                      subst c48
                                      have H1 : (none) = some r := by rw [if_neg (show ¬ (false = true) by decide)] at H; exact H
                                      clear H
                                      have H := H1
                                      clear H1
                                      exact absurd H (by simp)
                                  · replace c47 := Bool.eq_false_iff.mpr c47
                                    subst c47
                                    have H1 : (none) = some r := by rw [if_neg (show ¬ (false = true) by decide)] at H; exact H
                                    clear H
                                    have H := H1
                                    clear H1
                                    exact absurd H (by simp)
                                · replace c42 := Bool.eq_false_iff.mpr c42
                                  subst c42
                                  have H1 : (laws_FnWordsOfRolls.j1 k l1) = some r := by rw [if_neg (show ¬ (false = true) by decide)] at H; exact H
                                  clear H
                                  have H := H1
                                  clear H1
                                  have H' := Aside0.mk H
                                  clear H
                                  go_wp2
                                  go_meet
                                  case rel => exact ⟨_, H', ⟨by first | omega | exact Nat.le_refl _⟩, ⟨by repeat (first | (with_reducible first | exact HB.out | apply below_alloc | apply pw_below_drewN | apply below_drew1) | exact HB.out)⟩⟩
                              case rest =>
                                clear HC30
                                try clear c1
                                try clear p1
                                try clear q1
                                try clear hx1
                                try clear c2
                                try clear p2
                                try clear c4
                                try clear c5
                                try clear c6
                                try clear p6
                                try clear c7
                                try clear c8
                                try clear c9
                                try clear c10
                                try clear c11
                                try clear c12
                                try clear c13
                                try clear p13
                                try clear q13
                                try clear hx13
                                try clear c14
                                try clear c14b0
                                try clear c14b1
                                try clear c14b2
                                try clear c15
                                try clear c15b0
                                try clear c15b1
                                try clear c16
                                try clear c16b0
                                try clear c16b1
                                try clear c16b2
                                try clear c17
                                try clear c17b0
                                try clear c17b1
                                try clear c18
                                try clear c18b0
                                try clear c18b1
                                try clear c18b2
                                try clear c19
                                try clear c19b0
                                try clear c19b1
                                try clear c20
                                try clear c20b0
                                try clear c20b1
                                try clear c20b2
                                try clear c22
                                try clear c24
                                try clear c24b0
                                try clear c24b1
                                try clear c24b2
                                try clear c26
                                try clear c26b0
                                try clear c26b1
                                try clear c26b2
                                try clear c27
                                try clear c27b0
                                try clear c27b1
                                try clear c27b2
                                try clear c28
                                try clear c28b0
                                try clear c28b1
                                try clear c28b2
                                try clear c29
                                try clear c29b0
                                try clear c29b1
                                try clear c29b2
                                try clear c42
                                try clear c47
                                try clear c48
                                try clear c49
                                try clear c50
                                try clear c50b0
                                try clear c50b1
                                try clear c51
                                try clear c51b0
                                try clear c51b1
                                try clear c52
                                try clear c52b0
                                try clear c52b1
                                try clear c53
                                try clear c54
                                try clear c54b0
                                try clear c54b1
                                try clear c55
                                try clear c56
                                try clear c56b0
                                try clear c56b1
                                try clear c58
                                try clear c58b0
                                try clear c58b1
                                try clear c59
                                try clear c59b0
                                try clear c59b1
                                try clear c59b2
                                try clear c64
                                try clear c64b0
                                try clear p64
                                try clear c65
                                try clear c65b0
                                try clear c66
                                try clear c66b0
                                try clear c67
                                try clear c67b0
                                try clear c67b1
                                try clear c68
                                try clear c68b0
                                try clear c68b1
                                try clear c69
                                try clear c69b0
                                try clear c71
                                try clear c71b0
                                try clear c72
                                try clear c72b0
                                try clear c73
                                try clear c73b0
                                try clear hx135_0
                                try clear hx136_0
                                try clear p135
                                try clear p136
                                try clear p2
                                try clear q135
                                try clear q136
                                obtain ⟨kq, HA, HJ29, HB⟩ := hcut
                                cases kq with
                                | zero => exact absurd HA.out (by simp [laws_FnWordsOfRolls.j1])
                                | succ kj29 =>
                                  have H := HA.out
                                  clear HA
                                  simp only [laws_FnWordsOfRolls.j1] at H
                                  replace H := Option.bind_eq_some_iff.mp H
                                  obtain ⟨⟨t137, t138⟩, A740, H⟩ := H
                                  replace H : ((impl_AreSameRolls.f kj29 t137 t138).bind fun bt139 => ((spec_AreSameRolls.f kj29 t137 t138).bind fun bt141 => (if (bt139.2 != bt141.2) = true then (none) else (if (bt139.1 != bt141.1) = true then (none) else (if bt139.2 = true then ((laws_jUnit.f).bind fun bt143 => ((impl_RollWord.f kj29 bt143.1 bt143.2.1 bt143.2.2.1 bt143.2.2.2.1 bt143.2.2.2.2.1 bt143.2.2.2.2.2 t137).bind fun bt149 => ((laws_jUnit.f).bind fun bt157 => ((impl_RollWord.f kj29 bt157.1 bt157.2.1 bt157.2.2.1 bt157.2.2.2.1 bt157.2.2.2.2.1 bt157.2.2.2.2.2 t138).bind fun bt163 => ((impl_ShortestRolls.f kj29 t137).bind fun bt171 => ((impl_ShortestRolls.f kj29 t138).bind fun bt173 => (if bt149.2.2.2.2.2.2 = true then (if bt163.2.2.2.2.2.2 = true then (if (bt139.1 == (bt149.1 == bt163.1 && (bt149.2.1 == bt163.2.1 && (bt149.2.2.1 == bt163.2.2.1 && (bt149.2.2.2.1 == bt163.2.2.2.1 && (bt149.2.2.2.2.1 == bt163.2.2.2.2.1 && (bt149.2.2.2.2.2.1 == bt163.2.2.2.2.2.1))))))) = true then (if bt171.2 = true then (if bt173.2 = true then (some (bt139.1 == (bt171.1.toList == bt173.1.toList))) else (none)) else (none)) else (none)) else (none)) else (none)))))))) else (some true)))))) = some r := H
                                  have A74 := Aside0.mk A740
                                  clear A740
                                  replace H := Option.bind_eq_some_iff.mp H
                                  obtain ⟨⟨t139, t140⟩, A750, H⟩ := H
                                  replace H : ((spec_AreSameRolls.f kj29 t137 t138).bind fun bt141 => (if (t140 != bt141.2) = true then (none) else (if (t139 != bt141.1) = true then (none) else (if t140 = true then ((laws_jUnit.f).bind fun bt143 => ((impl_RollWord.f kj29 bt143.1 bt143.2.1 bt143.2.2.1 bt143.2.2.2.1 bt143.2.2.2.2.1 bt143.2.2.2.2.2 t137).bind fun bt149 => ((laws_jUnit.f).bind fun bt157 => ((impl_RollWord.f kj29 bt157.1 bt157.2.1 bt157.2.2.1 bt157.2.2.2.1 bt157.2.2.2.2.1 bt157.2.2.2.2.2 t138).bind fun bt163 => ((impl_ShortestRolls.f kj29 t137).bind fun bt171 => ((impl_ShortestRolls.f kj29 t138).bind fun bt173 => (if bt149.2.2.2.2.2.2 = true then (if bt163.2.2.2.2.2.2 = true then (if (t139 == (bt149.1 == bt163.1 && (bt149.2.1 == bt163.2.1 && (bt149.2.2.1 == bt163.2.2.1 && (bt149.2.2.2.1 == bt163.2.2.2.1 && (bt149.2.2.2.2.1 == bt163.2.2.2.2.1 && (bt149.2.2.2.2.2.1 == bt163.2.2.2.2.2.1))))))) = true then (if bt171.2 = true then (if bt173.2 = true then (some (t139 == (bt171.1.toList == bt173.1.toList))) else (none)) else (none)) else (none)) else (none)) else (none)))))))) else (some true))))) = some r := H
                                  have A75 := Aside0.mk A750
                                  clear A750
                                  replace H := Option.bind_eq_some_iff.mp H
                                  obtain ⟨⟨t141, t142⟩, A760, H⟩ := H
                                  replace H : (if (t140 != t142) = true then (none) else (if (t139 != t141) = true then (none) else (if t140 = true then ((laws_jUnit.f).bind fun bt143 => ((impl_RollWord.f kj29 bt143.1 bt143.2.1 bt143.2.2.1 bt143.2.2.2.1 bt143.2.2.2.2.1 bt143.2.2.2.2.2 t137).bind fun bt149 => ((laws_jUnit.f).bind fun bt157 => ((impl_RollWord.f kj29 bt157.1 bt157.2.1 bt157.2.2.1 bt157.2.2.2.1 bt157.2.2.2.2.1 bt157.2.2.2.2.2 t138).bind fun bt163 => ((impl_ShortestRolls.f kj29 t137).bind fun bt171 => ((impl_ShortestRolls.f kj29 t138).bind fun bt173 => (if bt149.2.2.2.2.2.2 = true then (if bt163.2.2.2.2.2.2 = true then (if (t139 == (bt149.1 == bt163.1 && (bt149.2.1 == bt163.2.1 && (bt149.2.2.1 == bt163.2.2.1 && (bt149.2.2.2.1 == bt163.2.2.2.1 && (bt149.2.2.2.2.1 == bt163.2.2.2.2.1 && (bt149.2.2.2.2.2.1 == bt163.2.2.2.2.2.1))))))) = true then (if bt171.2 = true then (if bt173.2 = true then (some (t139 == (bt171.1.toList == bt173.1.toList))) else (none)) else (none)) else (none)) else (none)) else (none)))))))) else (some true)))) = some r := H
                                  have A76 := Aside0.mk A760
                                  clear A760
                                  by_cases c77 : (t140 != t142) = true
                                  · rw [if_pos c77] at H
                                    exact absurd H (by simp)
                                  · rw [if_neg c77] at H
                                    have c77b0 : (t140 != t142) = false := by simpa using c77
                                    (try (have c77b1 : decide (t140 = t142) = true := by simpa using c77))
                                    (try (have c77b2 : (t140 == t142) = true := by simpa using c77))
                                    clear c77
                                    by_cases c78 : (t139 != t141) = true
                                    · rw [if_pos c78] at H
                                      exact absurd H (by simp)
                                    · rw [if_neg c78] at H
                                      have c78b0 : (t139 != t141) = false := by simpa using c78
                                      (try (have c78b1 : decide (t139 = t141) = true := by simpa using c78))
                                      (try (have c78b2 : (t139 == t141) = true := by simpa using c78))
                                      clear c78
                                      by_cases c79 : t140 = true
                                      · subst c79
                                        have H1 : ((laws_jUnit.f).bind fun bt143 => ((impl_RollWord.f kj29 bt143.1 bt143.2.1 bt143.2.2.1 bt143.2.2.2.1 bt143.2.2.2.2.1 bt143.2.2.2.2.2 t137).bind fun bt149 => ((laws_jUnit.f).bind fun bt157 => ((impl_RollWord.f kj29 bt157.1 bt157.2.1 bt157.2.2.1 bt157.2.2.2.1 bt157.2.2.2.2.1 bt157.2.2.2.2.2 t138).bind fun bt163 => ((impl_ShortestRolls.f kj29 t137).bind fun bt171 => ((impl_ShortestRolls.f kj29 t138).bind fun bt173 => (if bt149.2.2.2.2.2.2 = true then (if bt163.2.2.2.2.2.2 = true then (if (t139 == (bt149.1 == bt163.1 && (bt149.2.1 == bt163.2.1 && (bt149.2.2.1 == bt163.2.2.1 && (bt149.2.2.2.1 == bt163.2.2.2.1 && (bt149.2.2.2.2.1 == bt163.2.2.2.2.1 && (bt149.2.2.2.2.2.1 == bt163.2.2.2.2.2.1))))))) = true then (if bt171.2 = true then (if bt173.2 = true then (some (t139 == (bt171.1.toList == bt173.1.toList))) else (none)) else (none)) else (none)) else (none)) else (none)))))))) = some r := by rw [if_pos rfl] at H; exact H
                                        clear H
                                        have H := H1
                                        clear H1
                                        replace H := Option.bind_eq_some_iff.mp H
                                        obtain ⟨⟨t143, t144, t145, t146, t147, t148⟩, A800, H⟩ := H
                                        replace H : ((impl_RollWord.f kj29 t143 t144 t145 t146 t147 t148 t137).bind fun bt149 => ((laws_jUnit.f).bind fun bt157 => ((impl_RollWord.f kj29 bt157.1 bt157.2.1 bt157.2.2.1 bt157.2.2.2.1 bt157.2.2.2.2.1 bt157.2.2.2.2.2 t138).bind fun bt163 => ((impl_ShortestRolls.f kj29 t137).bind fun bt171 => ((impl_ShortestRolls.f kj29 t138).bind fun bt173 => (if bt149.2.2.2.2.2.2 = true then (if bt163.2.2.2.2.2.2 = true then (if (t139 == (bt149.1 == bt163.1 && (bt149.2.1 == bt163.2.1 && (bt149.2.2.1 == bt163.2.2.1 && (bt149.2.2.2.1 == bt163.2.2.2.1 && (bt149.2.2.2.2.1 == bt163.2.2.2.2.1 && (bt149.2.2.2.2.2.1 == bt163.2.2.2.2.2.1))))))) = true then (if bt171.2 = true then (if bt173.2 = true then (some (t139 == (bt171.1.toList == bt173.1.toList))) else (none)) else (none)) else (none)) else (none)) else (none))))))) = some r := H
                                        have A80 := Aside0.mk A800
                                        clear A800
                                        replace H := Option.bind_eq_some_iff.mp H
                                        obtain ⟨⟨t149, t150, t151, t152, t153, t154, t155⟩, A810, H⟩ := H
                                        replace H : ((laws_jUnit.f).bind fun bt157 => ((impl_RollWord.f kj29 bt157.1 bt157.2.1 bt157.2.2.1 bt157.2.2.2.1 bt157.2.2.2.2.1 bt157.2.2.2.2.2 t138).bind fun bt163 => ((impl_ShortestRolls.f kj29 t137).bind fun bt171 => ((impl_ShortestRolls.f kj29 t138).bind fun bt173 => (if t155 = true then (if bt163.2.2.2.2.2.2 = true then (if (t139 == (t149 == bt163.1 && (t150 == bt163.2.1 && (t151 == bt163.2.2.1 && (t152 == bt163.2.2.2.1 && (t153 == bt163.2.2.2.2.1 && (t154 == bt163.2.2.2.2.2.1))))))) = true then (if bt171.2 = true then (if bt173.2 = true then (some (t139 == (bt171.1.toList == bt173.1.toList))) else (none)) else (none)) else (none)) else (none)) else (none)))))) = some r := H
                                        have A81 := Aside0.mk A810
                                        clear A810
                                        replace H := Option.bind_eq_some_iff.mp H
                                        obtain ⟨⟨t157, t158, t159, t160, t161, t162⟩, A820, H⟩ := H
                                        replace H : ((impl_RollWord.f kj29 t157 t158 t159 t160 t161 t162 t138).bind fun bt163 => ((impl_ShortestRolls.f kj29 t137).bind fun bt171 => ((impl_ShortestRolls.f kj29 t138).bind fun bt173 => (if t155 = true then (if bt163.2.2.2.2.2.2 = true then (if (t139 == (t149 == bt163.1 && (t150 == bt163.2.1 && (t151 == bt163.2.2.1 && (t152 == bt163.2.2.2.1 && (t153 == bt163.2.2.2.2.1 && (t154 == bt163.2.2.2.2.2.1))))))) = true then (if bt171.2 = true then (if bt173.2 = true then (some (t139 == (bt171.1.toList == bt173.1.toList))) else (none)) else (none)) else (none)) else (none)) else (none))))) = some r := H
                                        have A82 := Aside0.mk A820
                                        clear A820
                                        replace H := Option.bind_eq_some_iff.mp H
                                        obtain ⟨⟨t163, t164, t165, t166, t167, t168, t169⟩, A830, H⟩ := H
                                        replace H : ((impl_ShortestRolls.f kj29 t137).bind fun bt171 => ((impl_ShortestRolls.f kj29 t138).bind fun bt173 => (if t155 = true then (if t169 = true then (if (t139 == (t149 == t163 && (t150 == t164 && (t151 == t165 && (t152 == t166 && (t153 == t167 && (t154 == t168))))))) = true then (if bt171.2 = true then (if bt173.2 = true then (some (t139 == (bt171.1.toList == bt173.1.toList))) else (none)) else (none)) else (none)) else (none)) else (none)))) = some r := H
                                        have A83 := Aside0.mk A830
                                        clear A830
                                        replace H := Option.bind_eq_some_iff.mp H
                                        obtain ⟨⟨t171, t172⟩, A840, H⟩ := H
                                        replace H : ((impl_ShortestRolls.f kj29 t138).bind fun bt173 => (if t155 = true then (if t169 = true then (if (t139 == (t149 == t163 && (t150 == t164 && (t151 == t165 && (t152 == t166 && (t153 == t167 && (t154 == t168))))))) = true then (if t172 = true then (if bt173.2 = true then (some (t139 == (t171.toList == bt173.1.toList))) else (none)) else (none)) else (none)) else (none)) else (none))) = some r := H
                                        have A84 := Aside0.mk A840
                                        clear A840
                                        replace H := Option.bind_eq_some_iff.mp H
                                        obtain ⟨⟨t173, t174⟩, A850, H⟩ := H
                                        replace H : (if t155 = true then (if t169 = true then (if (t139 == (t149 == t163 && (t150 == t164 && (t151 == t165 && (t152 == t166 && (t153 == t167 && (t154 == t168))))))) = true then (if t172 = true then (if t174 = true then (some (t139 == (t171.toList == t173.toList))) else (none)) else (none)) else (none)) else (none)) else (none)) = some r := H
                                        have A85 := Aside0.mk A850
                                        clear A850
                                        by_cases c86 : t155 = true
                                        · subst c86
                                          have H1 : (if t169 = true then (if (t139 == (t149 == t163 && (t150 == t164 && (t151 == t165 && (t152 == t166 && (t153 == t167 && (t154 == t168))))))) = true then (if t172 = true then (if t174 = true then (some (t139 == (t171.toList == t173.toList))) else (none)) else (none)) else (none)) else (none)) = some r := by rw [if_pos rfl] at H; exact H
                                          clear H
                                          have H := H1
                                          clear H1
                                          by_cases c87 : t169 = true
                                          · subst c87
                                            have H1 : (if (t139 == (t149 == t163 && (t150 == t164 && (t151 == t165 && (t152 == t166 && (t153 == t167 && (t154 == t168))))))) = true then (if t172 = true then (if t174 = true then (some (t139 == (t171.toList == t173.toList))) else (none)) else (none)) else (none)) = some r := by rw [if_pos rfl] at H; exact H
                                            clear H
                                            have H := H1
                                            clear H1
                                            by_cases c88 : (t139 == (t149 == t163 && (t150 == t164 && (t151 == t165 && (t152 == t166 && (t153 == t167 && (t154 == t168))))))) = true
                                            · rw [if_pos c88] at H
                                              have c88b0 : (t139 == (t149 == t163 && (t150 == t164 && (t151 == t165 && (t152 == t166 && (t153 == t167 && (t154 == t168))))))) = true := c88
                                              (try (have c88b1 : decide (t139 = (t149 == t163 && (t150 == t164 && (t151 == t165 && (t152 == t166 && (t153 == t167 && (t154 == t168))))))) = true := by simpa using c88))
                                              (try (have c88b2 : (t139 == (t149 == t163 && (t150 == t164 && (t151 == t165 && (t152 == t166 && (t153 == t167 && (t154 == t168))))))) = true := by simpa using c88))
                                              clear c88
                                              by_cases c89 : t172 = true
                                              · subst c89
                                                have H1 : (if t174 = true then (some (t139 == (t171.toList == t173.toList))) else (none)) = some r := by rw [if_pos rfl] at H; exact H
                                                clear H
                                                have H := H1
                                                clear H1
                                                by_cases c90 : t174 = true
                                                · subst c90
                                                  have H1 : (some (t139 == (t171.toList == t173.toList))) = some r := by rw [if_pos rfl] at H; exact H
                                                  clear H
                                                  have H := H1
                                                  clear H1
                                                  obtain rfl := Option.some.inj H
                                                  go_wp2_with (first | ((with_reducible refine gate_callee (f := 22) rfl ?_); refine goesL_ (some 269) rfl rfl Tryd.func22 (by kernel_rfl) rfl #[.slice A1 l1.length c1] rfl (by (try simp only [List.map_toArray, List.map_cons, List.map_nil]); first | done | rfl | (simp only [List.length_drop, List.length_take]; rfl)) ?_; (with_reducible refine (spec_DrawAreSameRolls.calls kj29 _ _ l1 t137 t138 _ ?side1 ?side2 A74.out).mono ?_); (case side1 => repeat (first | exact (Kd.C_below HR1.out HB.out) | (with_reducible refine Kd.C_alloc ?_ _) | (with_reducible refine Kd.C_drewN ?_ _) | (with_reducible refine Kd.C_drew ?_))); (case side2 => exact HC1.out); rintro e w91 ⟨rfl, hb⟩; refine ⟨_, rfl, ?_⟩; have n0_ := Aside0.mk (below_step (by repeat (first | (with_reducible first | exact HB.out | apply below_alloc | apply pw_below_drewN | apply below_drew1) | exact HB.out)) hb); clear HB; have HB := n0_; clear n0_; (try clear hb); (try clear hb2); (try clear hk); (try clear hi)) | ((with_reducible refine gate_callee (f := 20) rfl ?_); refine goesL_ (some 275) rfl rfl Tryd.func20 (by kernel_rfl) rfl #[.string t137, .string t138] rfl (by (try simp only [List.map_toArray, List.map_cons, List.map_nil]); first | done | rfl | (simp only [List.length_drop, List.length_take]; rfl)) ?_; (with_reducible refine (impl_AreSameRolls.calls kj29 t137 t138 t139 true _ A75.out).mono ?_); rintro e w92 ⟨rfl, hb⟩; refine ⟨_, rfl, ?_⟩; have n0_ := Aside0.mk (below_step (by repeat (first | (with_reducible first | exact HB.out | apply below_alloc | apply pw_below_drewN | apply below_drew1) | exact HB.out)) hb); clear HB; have HB := n0_; clear n0_; (try clear hb); (try clear hb2); (try clear hk); (try clear hi)) | ((with_reducible refine gate_callee (f := 23) rfl ?_); refine goesL_ (some 281) rfl rfl Tryd.func23 (by kernel_rfl) rfl #[.string t137, .string t138] rfl (by (try simp only [List.map_toArray, List.map_cons, List.map_nil]); first | done | rfl | (simp only [List.length_drop, List.length_take]; rfl)) ?_; (with_reducible refine (spec_AreSameRolls.calls kj29 t137 t138 t141 t142 _ A76.out).mono ?_); rintro e w93 ⟨rfl, hb⟩; refine ⟨_, rfl, ?_⟩; have n0_ := Aside0.mk (below_step (by repeat (first | (with_reducible first | exact HB.out | apply below_alloc | apply pw_below_drewN | apply below_drew1) | exact HB.out)) hb); clear HB; have HB := n0_; clear n0_; (try clear hb); (try clear hb2); (try clear hk); (try clear hi)) | ((with_reducible refine gate_callee (f := 25) rfl ?_); refine goesL_ (some 294) rfl rfl Tryd.func25 (by kernel_rfl) rfl #[] rfl (by (try simp only [List.map_toArray, List.map_cons, List.map_nil]); first | done | rfl | (simp only [List.length_drop, List.length_take]; rfl)) ?_; (with_reducible refine (laws_jUnit.calls  t143 t144 t145 t146 t147 t148 _ A80.out).mono ?_); rintro e w94 ⟨rfl, hb⟩; refine ⟨_, rfl, ?_⟩; have n0_ := Aside0.mk (below_step (by repeat (first | (with_reducible first | exact HB.out | apply below_alloc | apply pw_below_drewN | apply below_drew1) | exact HB.out)) hb); clear HB; have HB := n0_; clear n0_; (try clear hb); (try clear hb2); (try clear hk); (try clear hi)) | ((with_reducible refine gate_callee (f := 24) rfl ?_); refine goesL_ (some 296) rfl rfl Tryd.func24 (by kernel_rfl) rfl #[.agg #[.int .i64 t143, .int .i64 t144, .int .i64 t145, .int .i64 t146, .int .i64 t147, .int .i64 t148], .string t137] rfl (by (try simp only [List.map_toArray, List.map_cons, List.map_nil]); first | done | rfl | (simp only [List.length_drop, List.length_take]; rfl)) ?_; (with_reducible refine (impl_RollWord.calls kj29 t143 t144 t145 t146 t147 t148 t137 t149 t150 t151 t152 t153 t154 true _ A81.out).mono ?_); rintro e w95 ⟨rfl, hb⟩; refine ⟨_, rfl, ?_⟩; have n0_ := Aside0.mk (below_step (by repeat (first | (with_reducible first | exact HB.out | apply below_alloc | apply pw_below_drewN | apply below_drew1) | exact HB.out)) hb); clear HB; have HB := n0_; clear n0_; (try clear hb); (try clear hb2); (try clear hk); (try clear hi)) | ((with_reducible refine gate_dst (N := 38) rfl ?_); (try (refine gate_guard (by rfl) ?_; dsimp only)); refine box_event ?hg (N := 38) ?hd (cs := #[.int .i64 0, .int .i64 0, .int .i64 0, .int .i64 0, .int .i64 0, .int .i64 0]) (t := 42) ?hr ?_; (case hd => rfl); (case hg => rfl); (case hr => first | (go_simp; done) | (go_simp; rfl)); intro gb156 hg w96 hbox hb; have n0_ := Aside0.mk (below_step (by repeat (first | (with_reducible first | exact HB.out | apply below_alloc | apply pw_below_drewN | apply below_drew1) | exact HB.out)) hb); have n1_ := Aside0.mk (hbox); have n2_ := Aside0.mk ((by rw [hg]; exact (below_size (by repeat (first | (with_reducible first | exact HB.out | apply below_alloc | apply pw_below_drewN | apply below_drew1) | exact HB.out))) : w.heap.size ≤ gb156)); have n3_ := Aside0.mk ((by rw [hg]; exact (below_size (by repeat (first | (with_reducible first | exact HB.out | apply below_alloc | apply pw_below_drewN | apply below_drew1) | exact HB.out))) : w.heap.size ≤ gb156)); clear HB; have HB := n0_; have BK156 := n1_; have GW156 := n2_; have GE156 := n3_; clear n0_ n1_ n2_ n3_; clear hb hbox hg; have hcz97_0 : w96.cell? ⟨gb156, 0, none⟩ = some (.int .i64 0) := (blk_cell BK156.out 0).trans rfl; have hcz97_1 : w96.cell? ⟨gb156, 1, none⟩ = some (.int .i64 0) := (blk_cell BK156.out 1).trans rfl; have hcz97_2 : w96.cell? ⟨gb156, 2, none⟩ = some (.int .i64 0) := (blk_cell BK156.out 2).trans rfl; have hcz97_3 : w96.cell? ⟨gb156, 3, none⟩ = some (.int .i64 0) := (blk_cell BK156.out 3).trans rfl; have hcz97_4 : w96.cell? ⟨gb156, 4, none⟩ = some (.int .i64 0) := (blk_cell BK156.out 4).trans rfl; have hcz97_5 : w96.cell? ⟨gb156, 5, none⟩ = some (.int .i64 0) := (blk_cell BK156.out 5).trans rfl; have hfz97_0 := blk_frozen BK156.out 0; have hfz97_1 := blk_frozen BK156.out 1; have hfz97_2 := blk_frozen BK156.out 2; have hfz97_3 := blk_frozen BK156.out 3; have hfz97_4 := blk_frozen BK156.out 4; have hfz97_5 := blk_frozen BK156.out 5) | ((with_reducible refine gate_callee (f := 25) rfl ?_); refine goesL_ (some 300) rfl rfl Tryd.func25 (by kernel_rfl) rfl #[] rfl (by (try simp only [List.map_toArray, List.map_cons, List.map_nil]); first | done | rfl | (simp only [List.length_drop, List.length_take]; rfl)) ?_; (with_reducible refine (laws_jUnit.calls  t157 t158 t159 t160 t161 t162 _ A82.out).mono ?_); rintro e w98 ⟨rfl, hb⟩; refine ⟨_, rfl, ?_⟩; have n0_ := Aside0.mk (blk_below (g := gb156) (o := .cells #[.int .i64 t149, .int .i64 t150, .int .i64 t151, .int .i64 t152, .int .i64 t153, .int .i64 t154] 42 (0, 0)) (by (with_reducible repeat (first | refine blk_drewN ?_ _ | refine blk_drew ?_ | refine blk_alloc ?_ _)); refine blk_put (cs := #[.int .i64 t149, .int .i64 t150, .int .i64 t151, .int .i64 t152, .int .i64 t153, .int .i64 0]) ?_ 5 _ rfl; (with_reducible repeat (first | refine blk_drewN ?_ _ | refine blk_drew ?_ | refine blk_alloc ?_ _)); refine blk_put (cs := #[.int .i64 t149, .int .i64 t150, .int .i64 t151, .int .i64 t152, .int .i64 0, .int .i64 0]) ?_ 4 _ rfl; (with_reducible repeat (first | refine blk_drewN ?_ _ | refine blk_drew ?_ | refine blk_alloc ?_ _)); refine blk_put (cs := #[.int .i64 t149, .int .i64 t150, .int .i64 t151, .int .i64 0, .int .i64 0, .int .i64 0]) ?_ 3 _ rfl; (with_reducible repeat (first | refine blk_drewN ?_ _ | refine blk_drew ?_ | refine blk_alloc ?_ _)); refine blk_put (cs := #[.int .i64 t149, .int .i64 t150, .int .i64 0, .int .i64 0, .int .i64 0, .int .i64 0]) ?_ 2 _ rfl; (with_reducible repeat (first | refine blk_drewN ?_ _ | refine blk_drew ?_ | refine blk_alloc ?_ _)); refine blk_put (cs := #[.int .i64 t149, .int .i64 0, .int .i64 0, .int .i64 0, .int .i64 0, .int .i64 0]) ?_ 1 _ rfl; (with_reducible repeat (first | refine blk_drewN ?_ _ | refine blk_drew ?_ | refine blk_alloc ?_ _)); refine blk_put (cs := #[.int .i64 0, .int .i64 0, .int .i64 0, .int .i64 0, .int .i64 0, .int .i64 0]) ?_ 0 _ rfl; (with_reducible repeat (first | refine blk_drewN ?_ _ | refine blk_drew ?_ | refine blk_alloc ?_ _)); exact BK156.out) hb); have n1_ := Aside0.mk (below_step (by repeat (first | (with_reducible first | exact HB.out | apply below_alloc | apply pw_below_drewN | apply below_drew1 | refine below_set ?_ GE156.out) | exact HB.out)) hb); clear BK156; clear HB; have BK156 := n0_; have HB := n1_; clear n0_ n1_; (try clear hb); (try clear hb2); (try clear hk); (try clear hi)) | ((with_reducible refine gate_callee (f := 24) rfl ?_); refine goesL_ (some 302) rfl rfl Tryd.func24 (by kernel_rfl) rfl #[.agg #[.int .i64 t157, .int .i64 t158, .int .i64 t159, .int .i64 t160, .int .i64 t161, .int .i64 t162], .string t138] rfl (by (try simp only [List.map_toArray, List.map_cons, List.map_nil]); first | done | rfl | (simp only [List.length_drop, List.length_take]; rfl)) ?_; (with_reducible refine (impl_RollWord.calls kj29 t157 t158 t159 t160 t161 t162 t138 t163 t164 t165 t166 t167 t168 true _ A83.out).mono ?_); rintro e w99 ⟨rfl, hb⟩; refine ⟨_, rfl, ?_⟩; have n0_ := Aside0.mk (blk_below (g := gb156) (o := .cells #[.int .i64 t149, .int .i64 t150, .int .i64 t151, .int .i64 t152, .int .i64 t153, .int .i64 t154] 42 (0, 0)) (by (with_reducible repeat (first | refine blk_drewN ?_ _ | refine blk_drew ?_ | refine blk_alloc ?_ _)); exact BK156.out) hb); have n1_ := Aside0.mk (below_step (by repeat (first | (with_reducible first | exact HB.out | apply below_alloc | apply pw_below_drewN | apply below_drew1 | refine below_set ?_ GE156.out) | exact HB.out)) hb); clear BK156; clear HB; have BK156 := n0_; have HB := n1_; clear n0_ n1_; (try clear hb); (try clear hb2); (try clear hk); (try clear hi)) | ((with_reducible refine gate_dst (N := 40) rfl ?_); (try (refine gate_guard (by rfl) ?_; dsimp only)); refine box_event ?hg (N := 40) ?hd (cs := #[.int .i64 0, .int .i64 0, .int .i64 0, .int .i64 0, .int .i64 0, .int .i64 0]) (t := 42) ?hr ?_; (case hd => rfl); (case hg => rfl); (case hr => first | (go_simp; done) | (go_simp; rfl)); intro gb170 hg w100 hbox hb; have n0_ := Aside0.mk (blk_below (g := gb156) (o := .cells #[.int .i64 t149, .int .i64 t150, .int .i64 t151, .int .i64 t152, .int .i64 t153, .int .i64 t154] 42 (0, 0)) (by (with_reducible repeat (first | refine blk_drewN ?_ _ | refine blk_drew ?_ | refine blk_alloc ?_ _)); exact BK156.out) hb); have n1_ := Aside0.mk (below_step (by repeat (first | (with_reducible first | exact HB.out | apply below_alloc | apply pw_below_drewN | apply below_drew1 | refine below_set ?_ GE156.out) | exact HB.out)) hb); have n2_ := Aside0.mk (hbox); have n3_ := Aside0.mk ((by rw [hg]; exact (below_size (by repeat (first | (with_reducible first | exact HB.out | apply below_alloc | apply pw_below_drewN | apply below_drew1 | refine below_set ?_ GE156.out) | exact HB.out))) : w.heap.size ≤ gb170)); have n4_ := Aside0.mk ((by rw [hg]; exact (below_size (by repeat (first | (with_reducible first | exact HB.out | apply below_alloc | apply pw_below_drewN | apply below_drew1 | refine below_set ?_ GE156.out) | exact HB.out))) : w.heap.size ≤ gb170)); have n5_ := Aside0.mk ((by rw [hg]; exact Nat.ne_of_lt (blk_lt (g := gb156) (o := .cells #[.int .i64 t149, .int .i64 t150, .int .i64 t151, .int .i64 t152, .int .i64 t153, .int .i64 t154] 42 (0, 0)) (by (with_reducible repeat (first | refine blk_drewN ?_ _ | refine blk_drew ?_ | refine blk_alloc ?_ _)); exact BK156.out)) : gb156 ≠ gb170)); have n6_ := Aside0.mk ((by rw [hg]; exact Nat.ne_of_gt (blk_lt (g := gb156) (o := .cells #[.int .i64 t149, .int .i64 t150, .int .i64 t151, .int .i64 t152, .int .i64 t153, .int .i64 t154] 42 (0, 0)) (by (with_reducible repeat (first | refine blk_drewN ?_ _ | refine blk_drew ?_ | refine blk_alloc ?_ _)); exact BK156.out)) : gb170 ≠ gb156)); clear BK156; clear HB; have BK156 := n0_; have HB := n1_; have BK170 := n2_; have GW170 := n3_; have GE170 := n4_; have NB156_170 := n5_; have NB170_156 := n6_; clear n0_ n1_ n2_ n3_ n4_ n5_ n6_; clear hb hbox hg; have hnb101 := NB170_156.out; have hnc101 := NB156_170.out; have hcz102_0 : w100.cell? ⟨gb170, 0, none⟩ = some (.int .i64 0) := (blk_cell BK170.out 0).trans rfl; have hcz102_1 : w100.cell? ⟨gb170, 1, none⟩ = some (.int .i64 0) := (blk_cell BK170.out 1).trans rfl; have hcz102_2 : w100.cell? ⟨gb170, 2, none⟩ = some (.int .i64 0) := (blk_cell BK170.out 2).trans rfl; have hcz102_3 : w100.cell? ⟨gb170, 3, none⟩ = some (.int .i64 0) := (blk_cell BK170.out 3).trans rfl; have hcz102_4 : w100.cell? ⟨gb170, 4, none⟩ = some (.int .i64 0) := (blk_cell BK170.out 4).trans rfl; have hcz102_5 : w100.cell? ⟨gb170, 5, none⟩ = some (.int .i64 0) := (blk_cell BK170.out 5).trans rfl; have hfz102_0 := blk_frozen BK170.out 0; have hfz102_1 := blk_frozen BK170.out 1; have hfz102_2 := blk_frozen BK170.out 2; have hfz102_3 := blk_frozen BK170.out 3; have hfz102_4 := blk_frozen BK170.out 4; have hfz102_5 := blk_frozen BK170.out 5) | ((with_reducible refine gate_callee (f := 9) rfl ?_); refine goesL_ (some 307) rfl rfl Tryd.func9 (by kernel_rfl) rfl #[.string t137] rfl (by (try simp only [List.map_toArray, List.map_cons, List.map_nil]); first | done | rfl | (simp only [List.length_drop, List.length_take]; rfl)) ?_; (with_reducible refine (impl_ShortestRolls.calls kj29 t137 t171 true _ A84.out).mono ?_); rintro e w103 ⟨rfl, hb⟩; refine ⟨_, rfl, ?_⟩; have n0_ := Aside0.mk (blk_below (g := gb156) (o := .cells #[.int .i64 t149, .int .i64 t150, .int .i64 t151, .int .i64 t152, .int .i64 t153, .int .i64 t154] 42 (0, 0)) (by (with_reducible repeat (first | refine blk_drewN ?_ _ | refine blk_drew ?_ | refine blk_alloc ?_ _)); refine blk_far ?_ NB156_170.out _; (with_reducible repeat (first | refine blk_drewN ?_ _ | refine blk_drew ?_ | refine blk_alloc ?_ _)); refine blk_far ?_ NB156_170.out _; (with_reducible repeat (first | refine blk_drewN ?_ _ | refine blk_drew ?_ | refine blk_alloc ?_ _)); refine blk_far ?_ NB156_170.out _; (with_reducible repeat (first | refine blk_drewN ?_ _ | refine blk_drew ?_ | refine blk_alloc ?_ _)); refine blk_far ?_ NB156_170.out _; (with_reducible repeat (first | refine blk_drewN ?_ _ | refine blk_drew ?_ | refine blk_alloc ?_ _)); refine blk_far ?_ NB156_170.out _; (with_reducible repeat (first | refine blk_drewN ?_ _ | refine blk_drew ?_ | refine blk_alloc ?_ _)); refine blk_far ?_ NB156_170.out _; (with_reducible repeat (first | refine blk_drewN ?_ _ | refine blk_drew ?_ | refine blk_alloc ?_ _)); exact BK156.out) hb); have n1_ := Aside0.mk (blk_below (g := gb170) (o := .cells #[.int .i64 t163, .int .i64 t164, .int .i64 t165, .int .i64 t166, .int .i64 t167, .int .i64 t168] 42 (0, 0)) (by (with_reducible repeat (first | refine blk_drewN ?_ _ | refine blk_drew ?_ | refine blk_alloc ?_ _)); refine blk_put (cs := #[.int .i64 t163, .int .i64 t164, .int .i64 t165, .int .i64 t166, .int .i64 t167, .int .i64 0]) ?_ 5 _ rfl; (with_reducible repeat (first | refine blk_drewN ?_ _ | refine blk_drew ?_ | refine blk_alloc ?_ _)); refine blk_put (cs := #[.int .i64 t163, .int .i64 t164, .int .i64 t165, .int .i64 t166, .int .i64 0, .int .i64 0]) ?_ 4 _ rfl; (with_reducible repeat (first | refine blk_drewN ?_ _ | refine blk_drew ?_ | refine blk_alloc ?_ _)); refine blk_put (cs := #[.int .i64 t163, .int .i64 t164, .int .i64 t165, .int .i64 0, .int .i64 0, .int .i64 0]) ?_ 3 _ rfl; (with_reducible repeat (first | refine blk_drewN ?_ _ | refine blk_drew ?_ | refine blk_alloc ?_ _)); refine blk_put (cs := #[.int .i64 t163, .int .i64 t164, .int .i64 0, .int .i64 0, .int .i64 0, .int .i64 0]) ?_ 2 _ rfl; (with_reducible repeat (first | refine blk_drewN ?_ _ | refine blk_drew ?_ | refine blk_alloc ?_ _)); refine blk_put (cs := #[.int .i64 t163, .int .i64 0, .int .i64 0, .int .i64 0, .int .i64 0, .int .i64 0]) ?_ 1 _ rfl; (with_reducible repeat (first | refine blk_drewN ?_ _ | refine blk_drew ?_ | refine blk_alloc ?_ _)); refine blk_put (cs := #[.int .i64 0, .int .i64 0, .int .i64 0, .int .i64 0, .int .i64 0, .int .i64 0]) ?_ 0 _ rfl; (with_reducible repeat (first | refine blk_drewN ?_ _ | refine blk_drew ?_ | refine blk_alloc ?_ _)); exact BK170.out) hb); have n2_ := Aside0.mk (below_step (by repeat (first | (with_reducible first | exact HB.out | apply below_alloc | apply pw_below_drewN | apply below_drew1 | refine below_set ?_ GE156.out | refine below_set ?_ GE170.out) | exact HB.out)) hb); clear BK156; clear BK170; clear HB; have BK156 := n0_; have BK170 := n1_; have HB := n2_; clear n0_ n1_ n2_; (try clear hb); (try clear hb2); (try clear hk); (try clear hi)) | ((with_reducible refine gate_callee (f := 9) rfl ?_); refine goesL_ (some 312) rfl rfl Tryd.func9 (by kernel_rfl) rfl #[.string t138] rfl (by (try simp only [List.map_toArray, List.map_cons, List.map_nil]); first | done | rfl | (simp only [List.length_drop, List.length_take]; rfl)) ?_; (with_reducible refine (impl_ShortestRolls.calls kj29 t138 t173 true _ A85.out).mono ?_); rintro e w104 ⟨rfl, hb⟩; refine ⟨_, rfl, ?_⟩; have n0_ := Aside0.mk (blk_below (g := gb156) (o := .cells #[.int .i64 t149, .int .i64 t150, .int .i64 t151, .int .i64 t152, .int .i64 t153, .int .i64 t154] 42 (0, 0)) (by (with_reducible repeat (first | refine blk_drewN ?_ _ | refine blk_drew ?_ | refine blk_alloc ?_ _)); exact BK156.out) hb); have n1_ := Aside0.mk (blk_below (g := gb170) (o := .cells #[.int .i64 t163, .int .i64 t164, .int .i64 t165, .int .i64 t166, .int .i64 t167, .int .i64 t168] 42 (0, 0)) (by (with_reducible repeat (first | refine blk_drewN ?_ _ | refine blk_drew ?_ | refine blk_alloc ?_ _)); exact BK170.out) hb); have n2_ := Aside0.mk (below_step (by repeat (first | (with_reducible first | exact HB.out | apply below_alloc | apply pw_below_drewN | apply below_drew1 | refine below_set ?_ GE156.out | refine below_set ?_ GE170.out) | exact HB.out)) hb); clear BK156; clear BK170; clear HB; have BK156 := n0_; have BK170 := n1_; have HB := n2_; clear n0_ n1_ n2_; (try clear hb); (try clear hb2); (try clear hk); (try clear hi); have hcz105_0 : w104.cell? ⟨gb156, 0, none⟩ = some (.int .i64 t149) := (blk_cell BK156.out 0).trans rfl; have hcz105_1 : w104.cell? ⟨gb156, 1, none⟩ = some (.int .i64 t150) := (blk_cell BK156.out 1).trans rfl; have hcz105_2 : w104.cell? ⟨gb156, 2, none⟩ = some (.int .i64 t151) := (blk_cell BK156.out 2).trans rfl; have hcz105_3 : w104.cell? ⟨gb156, 3, none⟩ = some (.int .i64 t152) := (blk_cell BK156.out 3).trans rfl; have hcz105_4 : w104.cell? ⟨gb156, 4, none⟩ = some (.int .i64 t153) := (blk_cell BK156.out 4).trans rfl; have hcz105_5 : w104.cell? ⟨gb156, 5, none⟩ = some (.int .i64 t154) := (blk_cell BK156.out 5).trans rfl; have hfz105_0 := blk_frozen BK156.out 0; have hfz105_1 := blk_frozen BK156.out 1; have hfz105_2 := blk_frozen BK156.out 2; have hfz105_3 := blk_frozen BK156.out 3; have hfz105_4 := blk_frozen BK156.out 4; have hfz105_5 := blk_frozen BK156.out 5; have hcz106_0 : w104.cell? ⟨gb170, 0, none⟩ = some (.int .i64 t163) := (blk_cell BK170.out 0).trans rfl; have hcz106_1 : w104.cell? ⟨gb170, 1, none⟩ = some (.int .i64 t164) := (blk_cell BK170.out 1).trans rfl; have hcz106_2 : w104.cell? ⟨gb170, 2, none⟩ = some (.int .i64 t165) := (blk_cell BK170.out 2).trans rfl; have hcz106_3 : w104.cell? ⟨gb170, 3, none⟩ = some (.int .i64 t166) := (blk_cell BK170.out 3).trans rfl; have hcz106_4 : w104.cell? ⟨gb170, 4, none⟩ = some (.int .i64 t167) := (blk_cell BK170.out 4).trans rfl; have hcz106_5 : w104.cell? ⟨gb170, 5, none⟩ = some (.int .i64 t168) := (blk_cell BK170.out 5).trans rfl; have hfz106_0 := blk_frozen BK170.out 0; have hfz106_1 := blk_frozen BK170.out 1; have hfz106_2 := blk_frozen BK170.out 2; have hfz106_3 := blk_frozen BK170.out 3; have hfz106_4 := blk_frozen BK170.out 4; have hfz106_5 := blk_frozen BK170.out 5))
                                                  go_ret
                                                  exact ⟨by first | rfl | (simp [errW_none, errW_some] <;> rfl) | (simp [*, errW_none, errW_some] <;> rfl), by repeat (first | (with_reducible first | exact HB.out | apply below_alloc | apply pw_below_drewN | apply below_drew1 | refine below_set ?_ GE156.out | refine below_set ?_ GE170.out) | exact HB.out)⟩
                                                · replace c90 := Bool.eq_false_iff.mpr c90
                                                  subst c90
                                                  have H1 : (none) = some r := by rw [if_neg (show ¬ (false = true) by decide)] at H; exact H
                                                  clear H
                                                  have H := H1
                                                  clear H1
                                                  exact absurd H (by simp)
                                              · replace c89 := Bool.eq_false_iff.mpr c89
                                                subst c89
                                                have H1 : (none) = some r := by rw [if_neg (show ¬ (false = true) by decide)] at H; exact H
                                                clear H
                                                have H := H1
                                                clear H1
                                                exact absurd H (by simp)
                                            · rw [if_neg c88] at H
                                              exact absurd H (by simp)
                                          · replace c87 := Bool.eq_false_iff.mpr c87
                                            subst c87
                                            have H1 : (none) = some r := by rw [if_neg (show ¬ (false = true) by decide)] at H; exact H
                                            clear H
                                            have H := H1
                                            clear H1
                                            exact absurd H (by simp)
                                        · replace c86 := Bool.eq_false_iff.mpr c86
                                          subst c86
                                          have H1 : (none) = some r := by rw [if_neg (show ¬ (false = true) by decide)] at H; exact H
                                          clear H
                                          have H := H1
                                          clear H1
                                          exact absurd H (by simp)
                                      · replace c79 := Bool.eq_false_iff.mpr c79
                                        subst c79
                                        have H1 : (some true) = some r := by rw [if_neg (show ¬ (false = true) by decide)] at H; exact H
                                        clear H
                                        have H := H1
                                        clear H1
                                        obtain rfl := Option.some.inj H
                                        go_wp2_with (first | ((with_reducible refine gate_callee (f := 22) rfl ?_); refine goesL_ (some 269) rfl rfl Tryd.func22 (by kernel_rfl) rfl #[.slice A1 l1.length c1] rfl (by (try simp only [List.map_toArray, List.map_cons, List.map_nil]); first | done | rfl | (simp only [List.length_drop, List.length_take]; rfl)) ?_; (with_reducible refine (spec_DrawAreSameRolls.calls kj29 _ _ l1 t137 t138 _ ?side1 ?side2 A74.out).mono ?_); (case side1 => repeat (first | exact (Kd.C_below HR1.out HB.out) | (with_reducible refine Kd.C_alloc ?_ _) | (with_reducible refine Kd.C_drewN ?_ _) | (with_reducible refine Kd.C_drew ?_))); (case side2 => exact HC1.out); rintro e w107 ⟨rfl, hb⟩; refine ⟨_, rfl, ?_⟩; have n0_ := Aside0.mk (below_step (by repeat (first | (with_reducible first | exact HB.out | apply below_alloc | apply pw_below_drewN | apply below_drew1) | exact HB.out)) hb); clear HB; have HB := n0_; clear n0_; (try clear hb); (try clear hb2); (try clear hk); (try clear hi)) | ((with_reducible refine gate_callee (f := 20) rfl ?_); refine goesL_ (some 275) rfl rfl Tryd.func20 (by kernel_rfl) rfl #[.string t137, .string t138] rfl (by (try simp only [List.map_toArray, List.map_cons, List.map_nil]); first | done | rfl | (simp only [List.length_drop, List.length_take]; rfl)) ?_; (with_reducible refine (impl_AreSameRolls.calls kj29 t137 t138 t139 false _ A75.out).mono ?_); rintro e w108 ⟨rfl, hb⟩; refine ⟨_, rfl, ?_⟩; have n0_ := Aside0.mk (below_step (by repeat (first | (with_reducible first | exact HB.out | apply below_alloc | apply pw_below_drewN | apply below_drew1) | exact HB.out)) hb); clear HB; have HB := n0_; clear n0_; (try clear hb); (try clear hb2); (try clear hk); (try clear hi)) | ((with_reducible refine gate_callee (f := 23) rfl ?_); refine goesL_ (some 281) rfl rfl Tryd.func23 (by kernel_rfl) rfl #[.string t137, .string t138] rfl (by (try simp only [List.map_toArray, List.map_cons, List.map_nil]); first | done | rfl | (simp only [List.length_drop, List.length_take]; rfl)) ?_; (with_reducible refine (spec_AreSameRolls.calls kj29 t137 t138 t141 t142 _ A76.out).mono ?_); rintro e w109 ⟨rfl, hb⟩; refine ⟨_, rfl, ?_⟩; have n0_ := Aside0.mk (below_step (by repeat (first | (with_reducible first | exact HB.out | apply below_alloc | apply pw_below_drewN | apply below_drew1) | exact HB.out)) hb); clear HB; have HB := n0_; clear n0_; (try clear hb); (try clear hb2); (try clear hk); (try clear hi)))
                                        go_ret
                                        exact ⟨by first | rfl | (simp [errW_none, errW_some] <;> rfl) | (simp [*, errW_none, errW_some] <;> rfl), by repeat (first | (with_reducible first | exact HB.out | apply below_alloc | apply pw_below_drewN | apply below_drew1) | exact HB.out)⟩
                  · replace c22 := Bool.eq_false_iff.mpr c22
                    subst c22
                    have H1 : (none) = some r := by rw [if_neg (show ¬ (false = true) by decide)] at H; exact H
                    clear H
                    have H := H1
                    clear H1
                    exact absurd H (by simp)
              · rw [if_neg c19] at H
                exact absurd H (by simp)
          · rw [if_neg c17] at H
            exact absurd H (by simp)
      · rw [if_neg c15] at H
        exact absurd H (by simp)
def laws_FnWordsOfRolls.Pure : Prop := ∀ (l0 : List Int) (l1 : List Int), l0.length ≤ maxLen → l0.length * 1 ≤ 140737488351232 → (∀ x ∈ l0, (Lit.int .u8 x).wf = true) → l1.length ≤ maxLen → l1.length * 1 ≤ 140737488351232 → (∀ x ∈ l1, (Lit.int .u8 x).wf = true) → ∃ k, laws_FnWordsOfRolls.f k l0 l1 = some true
theorem laws_FnWordsOfRolls.walk (P : laws_FnWordsOfRolls.Pure) (a0 : Option Addr) (len0 cap0 : Nat) (z0 : List Int) (a1 : Option Addr) (len1 cap1 : Nat) (z1 : List Int) (w : World) (w0 : (a0 = none ∧ len0 = 0 ∧ cap0 = 0 ∧ z0 = []) ∨ ∃ x, a0 = some x ∧ len0 ≤ cap0 ∧ cap0 ≤ maxLen ∧ z0.length = cap0 ∧ (∀ i, i < z0.length → w.cell? (x.add i) = some (.int .u8 (z0.getD i 0))) ∧ ∀ n ∈ z0, (Lit.int .u8 n).wf = true) (y0 : len0 * 1 ≤ 140737488351232) (w1 : (a1 = none ∧ len1 = 0 ∧ cap1 = 0 ∧ z1 = []) ∨ ∃ x, a1 = some x ∧ len1 ≤ cap1 ∧ cap1 ≤ maxLen ∧ z1.length = cap1 ∧ (∀ i, i < z1.length → w.cell? (x.add i) = some (.int .u8 (z1.getD i 0))) ∧ ∀ n ∈ z1, (Lit.int .u8 n).wf = true) (y1 : len1 * 1 ≤ 140737488351232) :
    Calls Tryd.prog 4 #[.slice a0 len0 cap0, .slice a1 len1 cap1] w fun e w' => e = .returned (.bool true) ∧ Below w.heap.size w w' := by
  obtain ⟨l0, rfl, hr0, hm0, hw0, hc0⟩ := ReadsInt.ofRowC w0
  obtain ⟨l1, rfl, hr1, hm1, hw1, hc1⟩ := ReadsInt.ofRowC w1
  obtain ⟨k, h⟩ := P l0 l1 hm0 y0 hw0 hm1 y1 hw1
  refine (laws_FnWordsOfRolls.calls k _ _ l0 _ _ l1 true w (Kd.C_of_reads (d := (0 : Int)) (h1 := fun _ => rfl) hr0) hc0 (Kd.C_of_reads (d := (0 : Int)) (h1 := fun _ => rfl) hr1) hc1 h).mono ?_
  rintro e w' ⟨rfl, hd⟩
  exact ⟨rfl, hd⟩
end Go.Proofs.YtgnngpkaddbhiaaDoor.P

namespace Go.Proofs.YtgnngpkaddbhiaaDoor.P
open Go.RowKit Go.Proofs.YtgnngpkaddbhiaaDoorW.PrintWords Go.Proofs.YtgnngpkaddbhiaaDoorW.PrintLast Go.Proofs.YtgnngpkaddbhiaaDoorW.PrintMore Go.Proofs.YtgnngpkaddbhiaaDoorU
set_option linter.unusedVariables false
set_option linter.unusedSimpArgs false
set_option maxRecDepth 100000
theorem byte_dir (w : ByteArray) (j : Nat) (h : j < w.size) (ha : ∀ c ∈ bytesOf w, isDir c = true) : isDir (bt w (j : Int)) = true := by
  have h2 : j < (bytesOf w).length := by rw [bytes_length]; exact h
  have := ha (bytesOf w)[j] (List.getElem_mem _)
  have e : (bytesOf w)[j] = bt w (j : Int) := by
    have := rd_bytesOf w (j : Int)
    rw [← this, rd]
    simp [List.getD, h2]
  rwa [e] at this
theorem take_bytes (w : ByteArray) (j : Nat) (h : j < w.size) : (bytesOf w).take (j + 1) = (bytesOf w).take j ++ [bt w (j : Int)] := by
  have h2 : j < (bytesOf w).length := by rw [bytes_length]; exact h
  have e : (bytesOf w)[j] = bt w (j : Int) := by
    have := rd_bytesOf w (j : Int)
    rw [← this, rd]
    simp [List.getD, h2]
  rw [List.take_succ_eq_append_getElem h2, e]
theorem strOfNums_append (l m : List Int) : strOfNums (l ++ m) = strOfNums l ++ strOfNums m := by
  apply ByteArray.ext
  simp [strOfNums]
theorem diBack_aux (w : ByteArray) (hw : w.size ≤ 60) (ha : ∀ c ∈ bytesOf w, isDir c = true) : ∀ (j k : Nat) (x : ByteArray), j ≤ w.size → j + 6 < k → x.size + j ≤ 1000 →
    spec_diBack.l0 k w x ((j : Int) - 1) = some (x ++ strOfNums (backN ((bytesOf w).take j))) := by
  intro j
  induction j with
  | zero =>
    intro k x hj hk hx
    obtain ⟨k, rfl⟩ : ∃ k', k = k' + 1 := ⟨k - 1, by omega⟩
    rw [spec_diBack.l0, if_neg (by omega)]
    congr 1
    apply ByteArray.ext
    simp [backN, strOfNums]
  | succ j ih =>
    intro k x hj hk hx
    obtain ⟨k, rfl⟩ : ∃ k', k = k' + 1 := ⟨k - 1, by omega⟩
    have e : ((j + 1 : Nat) : Int) - 1 = (j : Int) := by omega
    rw [e, spec_diBack.l0, if_pos (by omega), if_pos (by omega), wrap_succ j (by omega), if_pos (by omega), if_pos (by omega), Int.toNat_natCast, Int.toNat_natCast, extract_one w j (by omega), diDir_one _ _ (by omega), ← bt_byte w j (by omega)]
    simp only [Option.bind_some, spec_diDirs.f]
    have hd := byte_dir w j (by omega) ha
    have hw2 : wrap64 ((j : Int) - 1) = (j : Int) - 1 := wrapS _ (by omega) (by omega)
    have hstep : ∀ (q : Int) (b : UInt8), q = Int.tmod (wrap64 (dirI (bt w (j : Int)) + 2)) 4 → 0 ≤ q → q ≤ 3 → (⟨#[110, 101, 115, 119]⟩ : ByteArray).extract q.toNat (q.toNat + 1) = ⟨#[b]⟩ → (b.toNat : Int) = opp (bt w (j : Int)) →
        (if 0 ≤ (Int.tmod (wrap64 (dirI (bt w (j : Int)) + 2)) 4) then (if (Int.tmod (wrap64 (dirI (bt w (j : Int)) + 2)) 4) ≤ (wrap64 ((Int.tmod (wrap64 (dirI (bt w (j : Int)) + 2)) 4) + 1)) then (if (wrap64 ((Int.tmod (wrap64 (dirI (bt w (j : Int)) + 2)) 4) + 1)) ≤ ((⟨#[110, 101, 115, 119]⟩ : ByteArray).size : Int) then (if x.size + ((⟨#[110, 101, 115, 119]⟩ : ByteArray).extract ((Int.tmod (wrap64 (dirI (bt w (j : Int)) + 2)) 4) : Int).toNat ((wrap64 ((Int.tmod (wrap64 (dirI (bt w (j : Int)) + 2)) 4) + 1)) : Int).toNat).size ≤ 9223372036854775807 then (spec_diBack.l0 k w (x ++ ((⟨#[110, 101, 115, 119]⟩ : ByteArray).extract ((Int.tmod (wrap64 (dirI (bt w (j : Int)) + 2)) 4) : Int).toNat ((wrap64 ((Int.tmod (wrap64 (dirI (bt w (j : Int)) + 2)) 4) + 1)) : Int).toNat)) (wrap64 ((j : Int) - 1))) else (none)) else (none)) else (none)) else (none)) = some (x ++ strOfNums (backN ((bytesOf w).take (j + 1)))) := by
      intro q b hq h0 h3 hx4 hb
      rw [← hq]
      have hs : ((⟨#[110, 101, 115, 119]⟩ : ByteArray).size : Int) = 4 := by decide
      have hqw : wrap64 (q + 1) = q + 1 := wrapS _ (by omega) (by omega)
      have hqn : (q + 1).toNat = q.toNat + 1 := by omega
      have h1 : (⟨#[b]⟩ : ByteArray).size = 1 := rfl
      rw [hqw, hs, hqn, hx4, h1, if_pos (by omega), if_pos (by omega), if_pos (by omega), if_pos (by omega), hw2, ih k _ (by omega) (by omega) (by rw [ByteArray.size_append, h1]; omega), take_bytes w j (by omega)]
      have e2 : backN ((bytesOf w).take j ++ [bt w (j : Int)]) = opp (bt w (j : Int)) :: backN ((bytesOf w).take j) := by simp [backN]
      have e3 : strOfNums [opp (bt w (j : Int))] = ⟨#[b]⟩ := by rw [← hb]; simp [strOfNums]
      rw [e2, show opp (bt w (j : Int)) :: backN ((bytesOf w).take j) = [opp (bt w (j : Int))] ++ backN ((bytesOf w).take j) from rfl, strOfNums_append, e3, ByteArray.append_assoc]
    rcases (isDir_iff _).1 hd with h | h | h | h
    · exact hstep 2 115 (by rw [h]; kernel_rfl) (by decide) (by decide) (by decide) (by rw [h]; decide)
    · exact hstep 3 119 (by rw [h]; kernel_rfl) (by decide) (by decide) (by decide) (by rw [h]; decide)
    · exact hstep 0 110 (by rw [h]; kernel_rfl) (by decide) (by decide) (by decide) (by rw [h]; decide)
    · exact hstep 1 101 (by rw [h]; kernel_rfl) (by decide) (by decide) (by decide) (by rw [h]; decide)
theorem backWord_eq' (k : Nat) (hk : 80 ≤ k) (w : ByteArray) : spec_BackWord.f k w = some (if okW w = true then (backW w, true) else (⟨#[]⟩, false)) := by
  unfold spec_BackWord.f
  rw [diWord_eq k w (by omega)]
  simp only [Option.bind_some]
  cases h : okW w with
  | false => rfl
  | true =>
    have h1 := okW_size h
    rw [if_pos rfl, if_pos rfl]
    unfold spec_diBack.f
    rw [wrapS _ (by omega) (by omega), diBack_aux w h1 (okW_all h) w.size k _ (by omega) (by omega) (by show 0 + _ ≤ _; omega)]
    have e : (bytesOf w).take w.size = bytesOf w := List.take_of_length_le (by rw [bytes_length]; exact Nat.le_refl _)
    have e4 : (⟨#[]⟩ : ByteArray) ++ strOfNums (backN (bytesOf w)) = backW w := by
      apply ByteArray.ext
      simp [backW]
    rw [e, e4]
    rfl
def ordO : Nat → Int → D6 → D6 → Option Int
  | 0, _, _, _ => none
  | k + 1, n, d, e => if d = P0 then some n else ordO k (n + 1) (compD d e) e
theorem order_aux (w : ByteArray) (hw : okW w = true) (kk : Nat) (hk : 70 ≤ kk) : ∀ (m : Nat) (n : Int) (d : D6), impl_OrderOfRolls.l0 m kk w n d = (ordO m n d (lieW w)).map (·, true)
  | 0, _, _ => rfl
  | m + 1, n, d => by
    have h1 := okW_size hw
    unfold impl_OrderOfRolls.l0 ordO
    by_cases h : d = P0
    · rw [if_pos (by rw [h]; rfl), if_pos h]; rfl
    · rw [if_neg (by exact h), if_neg h, rolled_eq kk d w (by omega) (by omega)]
      simp only [Option.bind_some]
      rw [order_aux w hw kk hk m, run_comp d]
      rfl
theorem order_aux' (w : ByteArray) (hw : okW w = true) (v : Int) (hv : v ≤ 20) : ∀ (m : Nat) (k : Nat) (n : Int) (d : D6), m + 80 ≤ k → 1 ≤ n → ordO m n d (lieW w) = some v → n ≤ v →
    spec_OrderOfRolls.l0 k w n d.1 d.2.1 d.2.2.1 d.2.2.2.1 d.2.2.2.2.1 d.2.2.2.2.2 = some (v, true)
  | 0, _, _, _, _, _, h, _ => by cases h
  | m + 1, k, n, d, hk, hn, h, hnv => by
    have h1 := okW_size hw
    obtain ⟨k, rfl⟩ : ∃ k', k = k' + 1 := ⟨k - 1, by omega⟩
    unfold spec_OrderOfRolls.l0
    rw [diUnit_eq]
    simp only [Option.bind_some]
    have hq : (!(d.1 == P0.1) || (!(d.2.1 == P0.2.1) || (!(d.2.2.1 == P0.2.2.1) || (!(d.2.2.2.1 == P0.2.2.2.1) || (!(d.2.2.2.2.1 == P0.2.2.2.2.1) || (!(d.2.2.2.2.2 == P0.2.2.2.2.2))))))) = !(d == P0) := by
      show _ = !((d.1 == P0.1) && ((d.2.1 == P0.2.1) && ((d.2.2.1 == P0.2.2.1) && ((d.2.2.2.1 == P0.2.2.2.1) && ((d.2.2.2.2.1 == P0.2.2.2.2.1) && ((d.2.2.2.2.2 == P0.2.2.2.2.2)))))))
      simp only [Bool.not_and]
    rw [hq]
    unfold ordO at h
    by_cases hd : d = P0
    · rw [if_pos hd] at h
      injection h with h
      rw [if_neg (by simp [hd]), h]
    · rw [if_neg hd] at h
      have hle : n + 1 ≤ v := by
        by_cases h' : n < v
        · omega
        · exfalso
          have : n = v := by omega
          exact ordO_gt m (n + 1) _ _ v h (by omega)
      rw [if_pos (by simp [hd]), if_pos (by omega), diRun_eq k d w (by omega) (by omega)]
      simp only [Option.bind_some]
      rw [wrapS _ (by omega) (by omega), run_comp d]
      exact order_aux' w hw v hv m k (n + 1) _ (by omega) (by omega) h hle
where
  ordO_gt : ∀ (m : Nat) (n : Int) (d e : D6) (v : Int), ordO m n d e = some v → v < n → False
    | 0, _, _, _, _, h, _ => by cases h
    | m + 1, n, d, e, v, h, hl => by
      unfold ordO at h
      split at h
      · injection h with h; omega
      · exact ordO_gt m (n + 1) _ _ _ h (by omega)
def ordE (e : D6) : Int := (ordO 7 1 e e).getD 0
theorem ordE_all : ∀ e ∈ D24, ordO 7 1 e e = some (ordE e) ∧ 1 ≤ ordE e ∧ ordE e ≤ 6 := by
  have h : (D24.all fun e => (ordO 7 1 e e == some (ordE e)) && decide (1 ≤ ordE e) && decide (ordE e ≤ 6)) = true := by kernel_rfl
  intro e he
  have := List.all_eq_true.1 h e he
  simp only [Bool.and_eq_true, beq_iff_eq, decide_eq_true_eq] at this
  exact ⟨this.1.1, this.1.2, this.2⟩
theorem orderOf_eq (k : Nat) (hk : 70 ≤ k) (w : ByteArray) : impl_OrderOfRolls.f k w = some (if okW w = true then (ordE (lieW w), true) else (0, false)) := by
  unfold impl_OrderOfRolls.f
  rw [isRolls_eq]
  simp only [Option.bind_some]
  cases h : okW w with
  | false => rfl
  | true =>
    rw [if_pos rfl, if_pos rfl, lie_def w h k hk]
    simp only [Option.bind_some]
    rw [order_aux w h k hk, (ordE_all _ (lie_mem h)).1]
    rfl
theorem orderOf_eq' (k : Nat) (hk : 90 ≤ k) (w : ByteArray) : spec_OrderOfRolls.f k w = some (if okW w = true then (ordE (lieW w), true) else (0, false)) := by
  unfold spec_OrderOfRolls.f
  rw [diWord_eq k w (by omega)]
  simp only [Option.bind_some, diUnit_eq]
  cases h : okW w with
  | false => rfl
  | true =>
    rw [if_pos rfl, if_pos rfl, show spec_diRun.f k P0.1 P0.2.1 P0.2.2.1 P0.2.2.2.1 P0.2.2.2.2.1 P0.2.2.2.2.2 w = _ from lie_def' w h k (by omega)]
    simp only [Option.bind_some]
    have := ordE_all _ (lie_mem h)
    exact order_aux' w h _ (by omega) 7 k 1 _ (by omega) (by omega) this.1 this.2.1
def insI (x : Int) : List Int → List Int
  | [] => [x]
  | y :: l => if x ≤ y then x :: y :: l else y :: insI x l
def sortI (l : List Int) : List Int := l.foldr insI []
theorem insI_perm (x : Int) : ∀ l : List Int, (insI x l).Perm (x :: l)
  | [] => List.Perm.refl _
  | y :: l => by
    unfold insI
    split
    · exact List.Perm.refl _
    · exact (List.Perm.cons y (insI_perm x l)).trans (List.Perm.swap x y l)
theorem sortI_perm : ∀ l : List Int, (sortI l).Perm l
  | [] => List.Perm.refl _
  | x :: l => (insI_perm x _).trans (List.Perm.cons x (sortI_perm l))
theorem insI_sorted (x : Int) : ∀ l : List Int, l.Pairwise (· ≤ ·) → (insI x l).Pairwise (· ≤ ·)
  | [], _ => by simp [insI]
  | y :: l, h => by
    unfold insI
    have h' := List.pairwise_cons.1 h
    split
    · rename_i hxy
      refine List.pairwise_cons.2 ⟨fun z hz => ?_, h⟩
      rcases List.mem_cons.1 hz with rfl | hz
      · exact hxy
      · have := h'.1 z hz; omega
    · rename_i hxy
      refine List.pairwise_cons.2 ⟨fun z hz => ?_, insI_sorted x l h'.2⟩
      rcases List.mem_cons.1 ((insI_perm x l).mem_iff.1 hz) with rfl | hz
      · omega
      · exact h'.1 z hz
theorem sortI_sorted : ∀ l : List Int, (sortI l).Pairwise (· ≤ ·)
  | [] => List.Pairwise.nil
  | x :: l => insI_sorted x _ (sortI_sorted l)
theorem mergeSort_eq (l : List Int) : (l.mergeSort fun x y => decide (x ≤ y)) = sortI l := by
  refine List.Perm.eq_of_pairwise (le := fun x y : Int => x ≤ y) (fun a b _ _ h1 h2 => by omega) ?_ (sortI_sorted l) ((List.mergeSort_perm l _).trans (sortI_perm l).symm)
  have := List.pairwise_mergeSort (le := fun x y : Int => decide (x ≤ y)) (fun a b c h1 h2 => by simp only [decide_eq_true_eq] at *; omega) (fun a b => by simp only [Bool.or_eq_true, decide_eq_true_eq]; omega) l
  exact this.imp (fun h => by simpa using h)
def cycR (e : D6) : List Int := (impl_cycles.l0 7 [e.1, e.2.1, e.2.2.1, e.2.2.2.1, e.2.2.2.2.1, e.2.2.2.2.2] [] (List.replicate 6 false) 0).getD []
def cycE (e : D6) : List Int := sortI (cycR e)
def lieB (e : D6) : Bool :=
  (impl_cycles.l0 7 [e.1, e.2.1, e.2.2.1, e.2.2.2.1, e.2.2.2.2.1, e.2.2.2.2.2] [] (List.replicate 6 false) 0 == some (cycR e)) && !(cycR e).isEmpty && decide ((cycR e).length ≤ 6) &&
  (spec_clCycles.f 300 e.1 e.2.1 e.2.2.1 e.2.2.2.1 e.2.2.2.2.1 e.2.2.2.2.2 == some (cycE e)) &&
  ((cycE e).foldl (· + ·) 0 == 6) && ((ordE e == 1) == decide ((cycE e).length = 6)) && ((cycE e).all fun n => decide (1 ≤ n ∧ n ≤ 6) && (Int.tmod (ordE e) n == 0)) &&
  (match shortN e with | some w => (runD P0 w == e) && w.all isDir && decide (w.length ≤ 4) | none => false)
theorem lieB_all : ∀ e ∈ D24, lieB e = true := List.all_eq_true.1 (by kernel_rfl : D24.all lieB = true)
theorem cycles_eq (e : D6) (he : e ∈ D24) : impl_cycles.f e.1 e.2.1 e.2.2.1 e.2.2.2.1 e.2.2.2.2.1 e.2.2.2.2.2 = some (cycE e) := by
  have h := lieB_all e he
  unfold lieB at h
  simp only [Bool.and_eq_true, beq_iff_eq, decide_eq_true_eq, Bool.not_eq_true'] at h
  unfold impl_cycles.f
  rw [h.1.1.1.1.1.1.1]
  simp only [Option.bind_some, slices_Sort_int_int.f]
  rw [if_neg, mergeSort_eq]
  · rfl
  · rintro (h' | h')
    · rw [h'] at h; simp at h
    · have := h.1.1.1.1.1.2; omega
theorem cycles_eq' (e : D6) (he : e ∈ D24) (k : Nat) (hk : 300 ≤ k) : spec_clCycles.f k e.1 e.2.1 e.2.2.1 e.2.2.2.1 e.2.2.2.2.1 e.2.2.2.2.2 = some (cycE e) := by
  have h := lieB_all e he
  unfold lieB at h
  simp only [Bool.and_eq_true, beq_iff_eq, decide_eq_true_eq, Bool.not_eq_true'] at h
  exact le_fuel (f := fun k => spec_clCycles.f k e.1 e.2.1 e.2.2.1 e.2.2.2.1 e.2.2.2.2.1 e.2.2.2.2.2) (spec_clCycles.mono _ _ _ _ _ _) h.1.1.1.1.2 hk
theorem faceCycles_eq (k : Nat) (hk : 70 ≤ k) (w : ByteArray) : impl_FaceCycles.f k w = some (if okW w = true then (cycE (lieW w), true) else ([], false)) := by
  unfold impl_FaceCycles.f
  rw [isRolls_eq]
  simp only [Option.bind_some, impl_plain.f]
  cases h : okW w with
  | false => rfl
  | true =>
    rw [if_pos rfl, if_pos rfl, lie_def w h k hk]
    simp only [Option.bind_some]
    rw [cycles_eq _ (lie_mem h)]
    rfl
theorem faceCycles_eq' (k : Nat) (hk : 300 ≤ k) (w : ByteArray) : spec_FaceCycles.f k w = some (if okW w = true then (cycE (lieW w), true) else ([], false)) := by
  unfold spec_FaceCycles.f
  rw [diWord_eq k w (by omega)]
  simp only [Option.bind_some, diUnit_eq]
  cases h : okW w with
  | false => rfl
  | true =>
    rw [if_pos rfl, if_pos rfl, show spec_diRun.f k P0.1 P0.2.1 P0.2.2.1 P0.2.2.2.1 P0.2.2.2.2.1 P0.2.2.2.2.2 w = _ from lie_def' w h k (by omega)]
    simp only [Option.bind_some]
    rw [cycles_eq' _ (lie_mem h) k hk]
    rfl
end Go.Proofs.YtgnngpkaddbhiaaDoor.P

namespace Go.Proofs.YtgnngpkaddbhiaaDoor.P
open Go.RowKit Go.Proofs.YtgnngpkaddbhiaaDoorW.PrintWords Go.Proofs.YtgnngpkaddbhiaaDoorW.PrintLast Go.Proofs.YtgnngpkaddbhiaaDoorW.PrintMore Go.Proofs.YtgnngpkaddbhiaaDoorU
set_option linter.unusedVariables false
set_option linter.unusedSimpArgs false
set_option maxRecDepth 100000
theorem rl_opp (d : D6) (c : Int) (h : isDir c = true) : rlD (rlD d c) (opp c) = d := by
  rcases (isDir_iff c).1 h with rfl | rfl | rfl | rfl <;> rfl
theorem run_append (d : D6) (l m : List Int) : runD d (l ++ m) = runD (runD d l) m := List.foldl_append
theorem run_back : ∀ (l : List Int) (d : D6), (∀ c ∈ l, isDir c = true) → runD (runD d l) (backN l) = d
  | [], d, _ => rfl
  | c :: l, d, h => by
    have e : backN (c :: l) = backN l ++ [opp c] := by simp [backN]
    rw [e, run_append]
    show rlD (runD (runD (rlD d c) l) (backN l)) (opp c) = d
    rw [run_back l (rlD d c) (fun x hx => h x (List.mem_cons_of_mem _ hx)), rl_opp d c (h c (List.mem_cons_self ..))]
theorem lie_back (w : ByteArray) (h : okW w = true) : compD (lieW w) (lieW (backW w)) = P0 := by
  unfold lieW
  rw [bytes_back, ← run_comp]
  exact run_back _ _ (okW_all h)
def pairB (e e' : D6) : Bool := (!(compD e e' == P0) || (ordE e == ordE e')) && (!(shortN e == shortN e') || (e == e'))
theorem pairB_all : ∀ e ∈ D24, ∀ e' ∈ D24, pairB e e' = true := by
  have h : (D24.all fun e => D24.all fun e' => pairB e e') = true := by kernel_rfl
  intro e he e' he'
  exact List.all_eq_true.1 (List.all_eq_true.1 h e he) e' he'
theorem ord_back (w : ByteArray) (h : okW w = true) : ordE (lieW (backW w)) = ordE (lieW w) := by
  have := pairB_all _ (lie_mem h) _ (lie_mem (okW_back w h))
  simp only [pairB, Bool.and_eq_true, Bool.or_eq_true, Bool.not_eq_true', beq_eq_false_iff_ne, beq_iff_eq] at this
  rcases this.1 with h' | h'
  · exact absurd (lie_back w h) h'
  · exact h'.symm
theorem short_inj (e e' : D6) (he : e ∈ D24) (he' : e' ∈ D24) (h : shortN e = shortN e') : e = e' := by
  have := pairB_all _ he _ he'
  simp only [pairB, Bool.and_eq_true, Bool.or_eq_true, Bool.not_eq_true', beq_eq_false_iff_ne, beq_iff_eq] at this
  rcases this.2 with h' | h'
  · exact absurd h h'
  · exact h'
def shL (e : D6) : Nat := ((shortN e).getD []).length
def stepB (e : D6) : Bool := [110, 101, 115, 119].all fun c => decide (shL (rlD e c) ≤ shL e + 1) && decide ((shL (rlD e c) + shL e) % 2 = 1)
theorem stepB_all : ∀ e ∈ D24, stepB e = true := List.all_eq_true.1 (by kernel_rfl : D24.all stepB = true)
theorem shL_run : ∀ (l : List Int) (d : D6), d ∈ D24 → (∀ c ∈ l, isDir c = true) → shL (runD d l) ≤ shL d + l.length ∧ (shL (runD d l) + shL d + l.length) % 2 = 0
  | [], d, hd, _ => ⟨Nat.le_refl _, by show (shL d + shL d + 0) % 2 = 0; omega⟩
  | c :: l, d, hd, h => by
    have hc := (isDir_iff c).1 (h c (List.mem_cons_self ..))
    have hl : ∀ x ∈ l, isDir x = true := fun x hx => h x (List.mem_cons_of_mem _ hx)
    have hm : rlD d c ∈ D24 := run_mem [c] d hd (fun x hx => by rw [List.mem_singleton.1 hx]; exact h c (List.mem_cons_self ..))
    have ih := shL_run l (rlD d c) hm hl
    have hs := List.all_eq_true.1 (stepB_all d hd) c (by simp; omega)
    simp only [Bool.and_eq_true, decide_eq_true_eq] at hs
    show shL (runD (rlD d c) l) ≤ shL d + (l.length + 1) ∧ (shL (runD (rlD d c) l) + shL d + (l.length + 1)) % 2 = 0
    omega
theorem short_fit (e : D6) (he : e ∈ D24) : ∃ s, shortN e = some s ∧ shortW e = (strOfNums s, true) ∧ bytesOf (strOfNums s) = s ∧ okW (strOfNums s) = true ∧ lieW (strOfNums s) = e ∧ (strOfNums s).size = shL e := by
  have h := lieB_all e he
  unfold lieB at h
  simp only [Bool.and_eq_true] at h
  have h2 := h.2
  cases hs : shortN e with
  | none => rw [hs] at h2; cases h2
  | some s =>
    rw [hs] at h2
    simp only [Bool.and_eq_true, beq_iff_eq, decide_eq_true_eq, List.all_eq_true] at h2
    have hr : ∀ c ∈ s, 0 ≤ c ∧ c ≤ 255 := fun c hc => by
      rcases (isDir_iff c).1 (h2.1.2 c hc) with rfl | rfl | rfl | rfl <;> decide
    have hb := bytes_strOfNums s hr
    refine ⟨s, rfl, by rw [shortW, hs]; rfl, hb, ?_, by rw [lieW, hb]; exact h2.1.1, by rw [strOfNums_size, shL, hs]; rfl⟩
    simp only [okW, Bool.and_eq_true, decide_eq_true_eq, List.all_eq_true]
    exact ⟨by rw [strOfNums_size]; omega, by rw [hb]; exact h2.1.2⟩
theorem short_len (w : ByteArray) (h : okW w = true) : shL (lieW w) ≤ w.size ∧ (shL (lieW w) + w.size) % 2 = 0 := by
  have := shL_run (bytesOf w) P0 P0_mem (okW_all h)
  rw [bytes_length] at this
  have h0 : shL P0 = 0 := by kernel_rfl
  rw [h0] at this
  exact ⟨by have := this.1; unfold lieW; omega, by have := this.2; unfold lieW; omega⟩
theorem jSame_aux (l : List Int) (hl : l.length < 9223372036854775807) : ∀ (m j k : Nat), l.length - j = m → j ≤ l.length → m < k → laws_jSame.l0 k l l (l.length : Int) (j : Int) = some true := by
  intro m
  induction m with
  | zero =>
    intro j k hm hj hk
    obtain ⟨k, rfl⟩ : ∃ k', k = k' + 1 := ⟨k - 1, by omega⟩
    rw [laws_jSame.l0, if_neg (by omega)]
  | succ m ih =>
    intro j k hm hj hk
    obtain ⟨k, rfl⟩ : ∃ k', k = k' + 1 := ⟨k - 1, by omega⟩
    rw [laws_jSame.l0, if_pos (by omega), if_pos (by omega), if_pos (by omega), if_pos (by omega), if_pos rfl, wrap_succ j (by omega)]
    exact ih (j + 1) k (by omega) (by omega) (by omega)
theorem jSame_refl (k : Nat) (l : List Int) (hl : l.length < 9223372036854775807) (hk : l.length < k) : laws_jSame.f k l l = some true := by
  unfold laws_jSame.f
  rw [if_pos rfl]
  exact jSame_aux l hl l.length 0 k (by omega) (by omega) hk
theorem jSum_aux (l : List Int) (hl : l.length ≤ 1000) (hx : ∀ x ∈ l, 0 ≤ x ∧ x ≤ 1000000) : ∀ (m j k : Nat) (a : Int), l.length - j = m → j ≤ l.length → m < k → 0 ≤ a → a + m * 1000000 ≤ 2000000000 → laws_jSum.l0 k a l (l.length : Int) (j : Int) = some ((l.drop j).foldl (· + ·) a) := by
  intro m
  induction m with
  | zero =>
    intro j k a hm hj hk h0 h1
    obtain ⟨k, rfl⟩ : ∃ k', k = k' + 1 := ⟨k - 1, by omega⟩
    rw [laws_jSum.l0, if_neg (by omega), List.drop_eq_nil_of_le (by omega)]
    rfl
  | succ m ih =>
    intro j k a hm hj hk h0 h1
    obtain ⟨k, rfl⟩ : ∃ k', k = k' + 1 := ⟨k - 1, by omega⟩
    have hjl : j < l.length := by omega
    have hrd : rd l (j : Int) = l[j] := by simp [rd, List.getD, hjl]
    have hb := hx l[j] (List.getElem_mem _)
    rw [laws_jSum.l0, if_pos (by omega), if_pos (by omega), if_pos (by omega), hrd, wrap_succ j (by omega), wrapS _ (by omega) (by omega), List.drop_eq_getElem_cons hjl]
    exact ih (j + 1) k (a + l[j]) (by omega) (by omega) (by omega) (by omega) (by omega)
theorem jSum_eq (k : Nat) (l : List Int) (hl : l.length ≤ 1000) (hx : ∀ x ∈ l, 0 ≤ x ∧ x ≤ 1000000) (hk : l.length < k) : laws_jSum.f k l = some (l.foldl (· + ·) 0) := by
  have := jSum_aux l hl hx l.length 0 k 0 (by omega) (by omega) hk (by omega) (by omega)
  simpa [laws_jSum.f] using this
theorem areSame_eq (k : Nat) (hk : 80 ≤ k) (v w : ByteArray) : impl_AreSameRolls.f k v w = some (if okW v = true ∧ okW w = true then (lieW v == lieW w, true) else (false, false)) := by
  obtain ⟨k, rfl⟩ : ∃ k', k = k' + 1 := ⟨k - 1, by omega⟩
  unfold impl_AreSameRolls.f
  rw [isRolls_eq, isRolls_eq]
  simp only [Option.bind_some]
  cases hv : okW v with
  | false => rfl
  | true =>
    cases hw : okW w with
    | false => rfl
    | true =>
      rw [if_pos rfl, if_pos ⟨rfl, rfl⟩]
      rw [impl_AreSameRolls.j0, if_neg (by simp)]
      simp only [impl_plain.f, Option.bind_some]
      rw [lie_def v hv k (by omega), lie_def w hw k (by omega)]
      rfl
theorem areSame_eq' (k : Nat) (hk : 90 ≤ k) (v w : ByteArray) : spec_AreSameRolls.f k v w = some (if okW v = true ∧ okW w = true then (lieW v == lieW w, true) else (false, false)) := by
  obtain ⟨k, rfl⟩ : ∃ k', k = k' + 1 := ⟨k - 1, by omega⟩
  unfold spec_AreSameRolls.f
  rw [diWord_eq (k + 1) v (by omega), diWord_eq (k + 1) w (by omega)]
  simp only [Option.bind_some]
  cases hv : okW v with
  | false => rfl
  | true =>
    cases hw : okW w with
    | false => rfl
    | true =>
      rw [if_pos rfl, if_pos ⟨rfl, rfl⟩]
      rw [spec_AreSameRolls.j0, if_neg (by simp)]
      simp only [diUnit_eq, P0, Option.bind_some]
      rw [lie_def' v hv k (by omega), lie_def' w hw k (by omega)]
      rfl
theorem rollUnit_eq (k : Nat) (hk : 80 ≤ k) (v : ByteArray) (hv : okW v = true) : impl_RollWord.f k 0 1 2 3 4 5 v = some ((lieW v).1, (lieW v).2.1, (lieW v).2.2.1, (lieW v).2.2.2.1, (lieW v).2.2.2.2.1, (lieW v).2.2.2.2.2, true) := by
  unfold impl_RollWord.f
  rw [show impl_IsDie.f 0 1 2 3 4 5 = some true from rfl, isRolls_eq, hv]
  simp only [Option.bind_some]
  rw [if_pos trivial, if_pos trivial, lie_def v hv k (by omega)]
  rfl
end Go.Proofs.YtgnngpkaddbhiaaDoor.P

namespace Go.Proofs.YtgnngpkaddbhiaaDoor.P
open Go.RowKit Go.Proofs.YtgnngpkaddbhiaaDoorW.PrintWords Go.Proofs.YtgnngpkaddbhiaaDoorW.PrintLast Go.Proofs.YtgnngpkaddbhiaaDoorW.PrintMore Go.Proofs.YtgnngpkaddbhiaaDoorU
set_option linter.unusedVariables false
set_option linter.unusedSimpArgs false
set_option maxRecDepth 100000
theorem drawWord_some (l : List Int) (hl : BytesL l) (k : Nat) (hk : 1000 ≤ k) : ∃ w, spec_DrawShortestRolls.f k l = some w := by
  unfold spec_DrawShortestRolls.f spec_DrawIsRolls.f
  obtain ⟨w, p', s', e, _⟩ := rolls_some l hl 0 0 9 (by omega) (by omega) (by omega) (by omega) k hk
  rw [e]
  exact ⟨w, rfl⟩
theorem drawPair_some (l : List Int) (hl : BytesL l) (k : Nat) (hk : 5000 ≤ k) : ∃ v w, spec_DrawAreSameRolls.f k l = some (v, w) := by
  unfold spec_DrawAreSameRolls.f
  obtain ⟨v, p1, s1, e, hv, ha, hb⟩ := rolls_some l hl 0 0 7 (by omega) (by omega) (by omega) (by omega) k (by omega)
  rw [e]
  simp only [Option.bind_some]
  rw [diWord_eq k v (by omega)]
  simp only [Option.bind_some]
  have rest : ∀ (b : Bool) (p s : Int), (b = true → okW v = true) → 0 ≤ p → p ≤ 3000 → ∃ v' w', spec_DrawAreSameRolls.j0 k v b l p s = some (v', w') := by
    intro b p s hb h0 h1
    obtain ⟨k, rfl⟩ : ∃ k', k = k' + 1 := ⟨k - 1, by omega⟩
    rw [spec_DrawAreSameRolls.j0]
    cases b with
    | true =>
      rw [if_pos rfl, diUnit_eq]
      simp only [Option.bind_some]
      rw [show spec_diRun.f k P0.1 P0.2.1 P0.2.2.1 P0.2.2.2.1 P0.2.2.2.2.1 P0.2.2.2.2.2 v = _ from lie_def' v (hb rfl) k (by omega)]
      simp only [Option.bind_some]
      rw [show spec_diWordTo.f k P0.1 P0.2.1 P0.2.2.1 P0.2.2.2.1 P0.2.2.2.2.1 P0.2.2.2.2.2 (lieW v).1 (lieW v).2.1 (lieW v).2.2.1 (lieW v).2.2.2.1 (lieW v).2.2.2.2.1 (lieW v).2.2.2.2.2 = _ from wordTo_eq k (by omega) (lieW v)]
      exact ⟨_, _, rfl⟩
    | false =>
      rw [if_neg (by simp)]
      obtain ⟨w, p2, s2, e2, _⟩ := rolls_some l hl p s 7 h0 (by omega) (by omega) (by omega) k (by omega)
      rw [e2]
      exact ⟨_, _, rfl⟩
  cases h : okW v with
  | false => rw [if_neg (by simp)]; exact rest false _ _ (fun h => by cases h) (by omega) (by omega)
  | true =>
    rw [if_pos rfl]
    obtain ⟨b, p2, s2, e2, h3, h4⟩ := one_some l hl p1 s1 2 (by omega) (by omega) (by omega)
    rw [e2]
    exact rest b p2 s2 (fun _ => h) (by omega) (by omega)
theorem j1_true (l : List Int) (hl : BytesL l) (k : Nat) (hk : 5100 ≤ k) : laws_FnWordsOfRolls.j1 k l = some true := by
  obtain ⟨k, rfl⟩ : ∃ k', k = k' + 1 := ⟨k - 1, by omega⟩
  rw [laws_FnWordsOfRolls.j1]
  obtain ⟨v, w, e⟩ := drawPair_some l hl k (by omega)
  rw [e]
  simp only [Option.bind_some]
  rw [areSame_eq k (by omega), areSame_eq' k (by omega)]
  simp only [Option.bind_some]
  rw [if_neg (by simp), if_neg (by simp)]
  by_cases h : okW v = true ∧ okW w = true
  · rw [if_pos h]
    simp only [laws_jUnit.f, Option.bind_some]
    rw [if_pos trivial, rollUnit_eq k (by omega) v h.1, rollUnit_eq k (by omega) w h.2, shortestRolls_eq k (by omega), shortestRolls_eq k (by omega)]
    simp only [Option.bind_some]
    rw [if_pos h.1, if_pos h.2]
    obtain ⟨s, hs, hsw, hsb, hso, hsl, hsz⟩ := short_fit _ (lie_mem h.1)
    obtain ⟨t, ht, htw, htb, hto, htl, htz⟩ := short_fit _ (lie_mem h.2)
    rw [hsw, htw]
    rw [if_pos rfl, if_pos rfl]
    have he : ((lieW v).1 == (lieW w).1 && ((lieW v).2.1 == (lieW w).2.1 && ((lieW v).2.2.1 == (lieW w).2.2.1 && ((lieW v).2.2.2.1 == (lieW w).2.2.2.1 && ((lieW v).2.2.2.2.1 == (lieW w).2.2.2.2.1 && ((lieW v).2.2.2.2.2 == (lieW w).2.2.2.2.2)))))) = (lieW v == lieW w) := rfl
    rw [he, if_pos trivial, if_pos (beq_self_eq_true _)]
    have he2 : (lieW v == lieW w) = ((strOfNums s).toList == (strOfNums t).toList) := by
      rw [toList_beq, hsb, htb]
      rw [Bool.eq_iff_iff, beq_iff_eq, beq_iff_eq]
      constructor
      · intro hh; rw [hh, ht] at hs; exact (Option.some.inj hs).symm
      · intro hh; exact short_inj _ _ (lie_mem h.1) (lie_mem h.2) (by rw [hs, ht, hh])
    show some ((lieW v == lieW w) == ((strOfNums s).toList == (strOfNums t).toList)) = some true
    rw [← he2]
    simp
  · rw [if_neg h]
    rfl
theorem l0_true (l : List Int) (hl : BytesL l) (o : Int) (cs : List Int) (hlen : cs.length ≤ 100) (hcs : ∀ n ∈ cs, 1 ≤ n ∧ n ≤ 6 ∧ Int.tmod o n = 0) (hs : cs.Pairwise (· ≤ ·)) : ∀ (m j k : Nat), cs.length - j = m → j ≤ cs.length → m + 5200 ≤ k →
    laws_FnWordsOfRolls.l0 k l o cs (cs.length : Int) (j : Int) = some true := by
  intro m
  induction m with
  | zero =>
    intro j k hm hj hk
    obtain ⟨k, rfl⟩ : ∃ k', k = k' + 1 := ⟨k - 1, by omega⟩
    rw [laws_FnWordsOfRolls.l0, if_neg (by omega)]
    exact j1_true l hl k (by omega)
  | succ m ih =>
    intro j k hm hj hk
    obtain ⟨k, rfl⟩ : ∃ k', k = k' + 1 := ⟨k - 1, by omega⟩
    have hjl : j < cs.length := by omega
    have hrd : rd cs (j : Int) = cs[j] := by simp [rd, List.getD, hjl]
    have hb := hcs cs[j] (List.getElem_mem _)
    rw [laws_FnWordsOfRolls.l0, if_pos (by omega), if_pos (by omega), if_pos (by omega), hrd, if_neg (by omega), if_pos hb.2.2, wrap_succ j (by omega)]
    by_cases h0 : j = 0
    · rw [if_neg (by omega)]
      exact ih (j + 1) k (by omega) (by omega) (by omega)
    · obtain ⟨i, rfl⟩ : ∃ i, j = i + 1 := ⟨j - 1, by omega⟩
      have hil : i < cs.length := by omega
      have hri : rd cs (i : Int) = cs[i] := by simp [rd, List.getD, hil]
      have hle : cs[i] ≤ cs[i + 1] := List.pairwise_iff_getElem.1 hs i (i + 1) hil hjl (by omega)
      rw [if_pos (by omega), wrap_pred i (by omega), if_pos (by omega), if_pos (by omega), hri, if_neg (by omega)]
      exact ih (i + 1 + 1) k (by omega) (by omega) (by omega)
theorem laws_FnWordsOfRolls.pure : laws_FnWordsOfRolls.Pure := by
  intro l0 l1 _ hz0 hw0 _ hz1 hw1
  have hl0 := bytesL_of hw0 hz0
  have hl1 := bytesL_of hw1 hz1
  refine ⟨6000, ?_⟩
  unfold laws_FnWordsOfRolls.f
  have hbig : ∃ b, laws_big.f l0 l1 = some b := by unfold laws_big.f; split <;> exact ⟨_, rfl⟩
  obtain ⟨b, hb⟩ := hbig
  rw [hb]
  simp only [Option.bind_some]
  cases b with
  | true => rw [if_pos rfl]
  | false =>
    rw [if_neg (by simp)]
    obtain ⟨w, e⟩ := drawWord_some l0 hl0 6000 (by omega)
    rw [e]
    simp only [Option.bind_some]
    rw [shortestRolls_eq 6000 (by omega), shortestRolls_eq' 6000 (by omega), backWord_eq, backWord_eq' 6000 (by omega), orderOf_eq 6000 (by omega), orderOf_eq' 6000 (by omega), faceCycles_eq 6000 (by omega), faceCycles_eq' 6000 (by omega), isRolls_eq, show spec_IsRolls.f 6000 w = some (okW w) from by unfold spec_IsRolls.f; rw [diWord_eq 6000 w (by omega)]; rfl]
    simp only [Option.bind_some]
    cases h : okW w with
    | false =>
      simp only [Bool.false_eq_true, if_false, bne_self_eq_false]
      rw [if_pos trivial, if_pos trivial, if_pos trivial, jSame_refl 6000 [] (by decide) (by decide)]
      simp only [Option.bind_some]
      rw [if_pos trivial]
      exact j1_true l1 hl1 6000 (by omega)
    | true =>
      have hL := lieB_all _ (lie_mem h)
      unfold lieB at hL
      simp only [Bool.and_eq_true, beq_iff_eq, decide_eq_true_eq, Bool.not_eq_true'] at hL
      obtain ⟨⟨⟨⟨⟨⟨⟨q1, q2⟩, q3⟩, q4⟩, q5⟩, q6⟩, q7⟩, q8⟩ := hL
      have hclen : (cycE (lieW w)).length ≤ 6 := by rw [cycE, (sortI_perm _).length_eq]; exact q3
      have hcs : ∀ n ∈ cycE (lieW w), 1 ≤ n ∧ n ≤ 6 ∧ Int.tmod (ordE (lieW w)) n = 0 := fun n hn => by
        have := List.all_eq_true.1 q7 n hn
        simp only [Bool.and_eq_true, beq_iff_eq, decide_eq_true_eq] at this
        exact ⟨this.1.1, this.1.2, this.2⟩
      obtain ⟨s, hs, hsw, hsb, hso, hsl, hsz⟩ := short_fit _ (lie_mem h)
      have hlen := short_len w h
      simp only [if_true, bne_self_eq_false, Bool.false_eq_true, if_false]
      rw [jSame_refl 6000 _ (by omega) (by omega), hsw]
      simp only [Option.bind_some, if_true, bne_self_eq_false, Bool.false_eq_true, if_false]
      rw [areSame_eq 6000 (by omega), shortestRolls_eq 6000 (by omega), backWord_eq, orderOf_eq 6000 (by omega), h, hso, okW_back w h, hsl, hsw, backW_backW w h, ord_back w h]
      simp only [Option.bind_some, and_self, if_true, beq_self_eq_true]
      rw [if_neg (by omega), if_pos (by omega), jSum_eq 6000 _ (by omega) (fun x hx => by have := hcs x hx; omega) (by omega), q5]
      simp only [Option.bind_some, if_true]
      have q6' : (ordE (lieW w) == 1) = (((cycE (lieW w)).length : Int) == 6) := by
        rw [q6, Bool.eq_iff_iff, decide_eq_true_eq, beq_iff_eq]
        omega
      rw [q6', if_neg (by simp)]
      exact l0_true l1 hl1 _ _ (by omega) hcs (sortI_sorted _) _ 0 6000 rfl (by omega) (by omega)
end Go.Proofs.YtgnngpkaddbhiaaDoor.P
