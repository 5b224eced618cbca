-- Packed by this work's pack.py. Not trusted: Lean checks it.
import Derived.Sort.OwnSortedInts
import Derived.Test.YtgnngpkaddbhiaaDoorK10
namespace Go.Proofs.YtgnngpkaddbhiaaDoor.P
open Go.RowKit Go.Proofs.YtgnngpkaddbhiaaDoorW.PrintWords Go.Proofs.YtgnngpkaddbhiaaDoorW.PrintLast Go.Proofs.YtgnngpkaddbhiaaDoorW.PrintMore
attribute [local go_sem] max2_int min2_int max_two min_two max_three min_three max_four min_four
set_option linter.unusedVariables false
set_option linter.unusedSimpArgs false
def slices_Sort_int_int.f (l0 : List Int) : Option (List Int) := if l0 = [] ∨ 4611686018427387904 ≤ l0.length then none else some (l0.mergeSort fun x y => decide (x ≤ y))
theorem slices_Sort_int_int.calls (P0_ : Nat → Prop) (u9000_ : Value) (l0 : List Int) (r : List Int) (w0 w : World) (hB : Below w0.heap.size w0 w) (ho0 : Kd.R (Kd.int .i64) 3 w w0.heap.size P0_ u9000_ l0) (h : slices_Sort_int_int.f l0 = some r) :
    Calls Tryd.prog 66 #[u9000_] w fun e w' => e = .returned (.tuple #[]) ∧ Kd.R (Kd.int .i64) 3 w' w0.heap.size (fun k_ => (P0_ k_ ∨ w.heap.size ≤ k_)) u9000_ r ∧ Below w0.heap.size w0 w' ∧ Kept w w' (fun k_ => P0_ k_) := by
  unfold slices_Sort_int_int.f at h
  split at h
  · cases h
  rename_i hne0
  have hne : l0 ≠ [] := fun e => hne0 (.inl e)
  have hsz : l0.length < 4611686018427387904 := Nat.lt_of_not_le fun e => hne0 (.inr e)
  obtain rfl := Option.some.inj h
  clear h
  have hok := ho0.1
  have hown := Kd.own_of_R ho0
  have hlen := hown.1
  rcases hown.2 with ⟨_, h0⟩ | ⟨g, cap, cur, rfl, hbase, hb, h1, h2, h3, h4⟩
  · exact absurd (List.eq_nil_of_length_eq_zero h0) hne
  have hcur : cur.toList.take l0.length = l0.map (Value.int .i64) := by simpa [encs] using h4
  have hg := (Array.getElem?_eq_some_iff.1 hb).1
  refine (Tryd.slices_Sort_int g 0 cap l0 w (holds_of_blockI hb hcur) hg hsz).mono ?_
  rintro e w' ⟨rfl, nn, os, rfl⟩
  have hs := ownsRow_sortedI (w := w) (os := os) (n := nn) (base := w0.heap.size) (e := 3) (g := g) (cap := cap) (cur := cur) (ss := l0) (ts := l0.mergeSort fun x y => decide (x ≤ y)) (by simp) hbase hb h1 h2 h3
  have hgr := grownBy_sortedI (w := w) (g := g) (n := nn) (os := os) (l0.mergeSort fun x y => decide (x ≤ y)).toArray
  refine ⟨rfl, ?_, hB.grown hgr hB.size (fun j hj => by cases hj; exact hbase), ?_⟩
  · refine Kd.R_of_own ?_ (fun k hk => .inl (hok k hk))
    rw [List.length_mergeSort]
    exact hs
  · exact ⟨hgr.size, fun i hi hn => hgr.block i hi (fun e => hn (by cases e; exact hok _ rfl))⟩
end Go.Proofs.YtgnngpkaddbhiaaDoor.P

namespace Go.Proofs.YtgnngpkaddbhiaaDoor.P
open Go.RowKit Go.Proofs.YtgnngpkaddbhiaaDoorW.PrintWords Go.Proofs.YtgnngpkaddbhiaaDoorW.PrintLast Go.Proofs.YtgnngpkaddbhiaaDoorW.PrintMore
attribute [local go_sem] max2_int min2_int max_two min_two max_three min_three max_four min_four
set_option linter.unusedVariables false
set_option linter.unusedSimpArgs false
def impl_cycles.l1 : Nat → List Int → List Bool → Int → Int → Option (List Bool × Int)
  | 0, _, _, _, _ => none
  | k + 1, f, met, at_, long => if 0 ≤ at_ ∧ at_ < 6 then (if rdOf false met at_ = true then some (met, long) else impl_cycles.l1 k f (met.set at_.toNat true) (rd f at_) (long + 1)) else none
def impl_cycles.l0 : Nat → List Int → List Int → List Bool → Int → Option (List Int)
  | 0, _, _, _, _ => none
  | k + 1, f, out, met, i => if i < 6 then ((impl_cycles.l1 7 f met i 0).bind fun r => if r.2 > 0 then impl_cycles.l0 k f (out ++ [r.2]) r.1 (i + 1) else impl_cycles.l0 k f out r.1 (i + 1)) else some out
def impl_cycles.f (a0_0 a0_1 a0_2 a0_3 a0_4 a0_5 : Int) : Option (List Int) := (impl_cycles.l0 7 [a0_0, a0_1, a0_2, a0_3, a0_4, a0_5] [] (List.replicate 6 false) 0).bind slices_Sort_int_int.f
set_option maxHeartbeats 4000000 in
set_option maxRecDepth 100000 in
theorem impl_cycles.calls (a0_0 a0_1 a0_2 a0_3 a0_4 a0_5 : Int) (r : List Int) (w : World) (h : impl_cycles.f a0_0 a0_1 a0_2 a0_3 a0_4 a0_5 = some r) :
    Calls Tryd.prog 39 #[.agg #[.int .i64 a0_0, .int .i64 a0_1, .int .i64 a0_2, .int .i64 a0_3, .int .i64 a0_4, .int .i64 a0_5]] w fun e w' => ∃ v0_ : Value, e = .returned v0_ ∧ Kd.R (Kd.int .i64) 3 w' w.heap.size (fun _ => True) v0_ r ∧ Below w.heap.size w w' := by
  have hu := Tryd.underlying42
  have hu2 := Tryd.underlying92
  obtain ⟨l, HF, HL⟩ : ∃ l, Aside0 (impl_Die_faces.f a0_0 a0_1 a0_2 a0_3 a0_4 a0_5 = some l) ∧ Aside0 ((impl_cycles.l0 7 l [] (List.replicate 6 false) 0).bind slices_Sort_int_int.f = some r) := ⟨[a0_0, a0_1, a0_2, a0_3, a0_4, a0_5], ⟨rfl⟩, ⟨h⟩⟩
  have HLen : Aside0 (l.length = 6) := ⟨by have := HF.out; simp [impl_Die_faces.f] at this; subst this; rfl⟩
  clear h
  go_enter Tryd.func39, Tryd.ntmps39
  have HB := Aside0.mk (Below.refl w.heap.size w)
  go_wp2_with (first | ((with_reducible refine gate_dst (N := 1) rfl ?_); refine box_event ?hg (N := 1) ?hd (cs := #[.int .i64 a0_0, .int .i64 a0_1, .int .i64 a0_2, .int .i64 a0_3, .int .i64 a0_4, .int .i64 a0_5]) (t := 42) ?hr ?_; (case hd => rfl); (case hg => rfl); (case hr => first | (go_simp; done) | (go_simp; rfl)); intro gb hg w1 hbox hb; have BK := Aside0.mk hbox; have n0_ := Aside0.mk (below_step HB.out hb); clear HB; have HB := n0_; clear n0_ hb hbox hg) | ((with_reducible refine gate_dst (N := 9) rfl ?_); refine Kd.R_lit (Kd.int .i64) w.heap.size 3 ?hg (N := 9) ?hd (w0 := w) (xs := ([] : List Int)) (inner := []) (ok := fun _ => True) (okp := fun _ => True) ?hr ?hp (fun _ hk => hk) trivial HB.out (below_size HB.out) (by simp) ?_; (case hd => rfl); (case hg => rfl); (case hr => first | (go_simp; done) | (go_simp; rfl)); (case hp => exact Reps.none _ _); intro v9 w2 hout hb1 hgr1 hown1; have HO := Aside0.mk hout; have n0_ := Aside0.mk (blk_grown BK.out hgr1 (by simp)); clear HB BK; have HB := Aside0.mk hb1; have BK := n0_; clear n0_ hout hb1 hgr1 hown1; have hc0 := (blk_cell BK.out 0).trans rfl; have hc1 := (blk_cell BK.out 1).trans rfl; have hc2 := (blk_cell BK.out 2).trans rfl; have hc3 := (blk_cell BK.out 3).trans rfl; have hc4 := (blk_cell BK.out 4).trans rfl; have hc5 := (blk_cell BK.out 5).trans rfl) | (go_at_call 65; (with_reducible refine (impl_Die_faces.calls _ _ _ _ _ _ _ _ HF.out).mono ?_); rintro e w3 ⟨v0, rfl, ho, hb⟩; clear hc0 hc1 hc2 hc3 hc4 hc5; have n0_ := Aside0.mk (below_step HB.out hb); have n1_ := Aside0.mk (Kd.R_below (Kd.R_bound HO.out) hb); have HS2 := below_size HB.out; have HO4 := Aside0.mk ho; clear HB HO BK; have HB := n0_; have HO := n1_; clear n0_ n1_ ho hb))
  obtain ⟨gl, cl, cur, rfl, hgl, _, hcl, hbl, htl⟩ := Go.Proofs.YtgnngpkaddbhiaaDoorU.block_of_R HO4.out (by intro e; have := HLen.out; rw [e] at this; cases this)
  have HA0 := Aside0.mk (Go.Proofs.YtgnngpkaddbhiaaDoorU.Arr.new w3 92 #[.bool false, .bool false, .bool false, .bool false, .bool false, .bool false])
  have HBL := Aside0.mk hbl
  have HTL := Aside0.mk htl
  have hgl3 : gl < w3.heap.size := (Array.getElem?_eq_some_iff.1 hbl).1
  clear hbl htl
  generalize hga : w3.heap.size = ga at HA0 hgl3 ⊢
  have hO : Kd.R (Kd.int .i64) 3 (w3.alloc (.cells #[.bool false, .bool false, .bool false, .bool false, .bool false, .bool false] 92)) w.heap.size (fun k => k ≠ gl ∧ k ≠ ga) v9 [] := by
    exact Kd.R_alloc (Kd.R_mono HO.out (fun k hk => ⟨by have := hk.2.2.1; omega, by have := hk.2.2.1; have := hgl3; omega⟩)) _
  have hB : Below w.heap.size w (w3.alloc (.cells #[.bool false, .bool false, .bool false, .bool false, .bool false, .bool false] 92)) := below_alloc HB.out _
  have HBL2 := Aside0.mk (show (w3.alloc (.cells #[.bool false, .bool false, .bool false, .bool false, .bool false, .bool false] 92)).heap[gl]? = some (.cells cur 3 (0, 0)) from (Below.heap_alloc w3 _ gl (by omega)).trans HBL.out)
  have HGW : w.heap.size ≤ gl := Nat.le_trans HS2 hgl
  have HGA : w.heap.size ≤ ga := by omega
  have HO0 := Aside0.mk hO
  have HB0 := Aside0.mk hB
  clear hO hB HO HB HO4 HBL
  go_loopg [3, 13] 7 (fun kq v3 v13 w' => ∃ (out : List Int) (met : List Bool) (i : Nat), v13 = .int .i64 i ∧ i ≤ 6 ∧ Aside0 (met.length = 6) ∧ Aside0 ((impl_cycles.l0 kq l out met i).bind slices_Sort_int_int.f = some r) ∧ Aside0 (Kd.R (Kd.int .i64) 3 w' w.heap.size (fun k => k ≠ gl ∧ k ≠ ga) v3 out) ∧ Aside0 (out.length ≤ i) ∧ Aside0 (Go.Proofs.YtgnngpkaddbhiaaDoorU.Arr w' ga 92 (met.map Value.bool)) ∧ Aside0 (w'.heap[gl]? = some (.cells cur 3 (0, 0))) ∧ Aside0 (Below w.heap.size w w'))
  case atStart => exact ⟨[], List.replicate 6 false, 0, rfl, by omega, ⟨rfl⟩, HL, HO0, ⟨Nat.le_refl _⟩, HA0, HBL2, HB0⟩
  case round =>
    clear HL HO0 HA0 HBL2 HB0
    obtain ⟨out, met, i, rfl, hi, HM, HA, HO, HLn, HAr, HBL, HB⟩ := hrel
    cases gk with
    | zero => exact absurd HA.out (by simp [impl_cycles.l0])
    | succ k1 =>
    have H := HA.out
    clear HA
    simp only [impl_cycles.l0] at H
    by_cases hlt : (i : Int) < 6
    · rw [if_pos hlt] at H
      rw [Option.bind_assoc] at H
      obtain ⟨⟨met2, long2⟩, h1, h2⟩ := Option.bind_eq_some_iff.mp H
      have HI1 := Aside0.mk h1
      have HI2 := Aside0.mk h2
      clear H h1 h2
      have hlt2 : i < 6 := by omega
      go_wp2
      go_loopg [7, 8] 7 (fun kq v7 v8 w' => ∃ (m1 : List Bool) (at_ long : Int), v7 = .int .i64 long ∧ v8 = .int .i64 at_ ∧ 0 ≤ long ∧ long + kq ≤ 7 ∧ Aside0 (m1.length = 6) ∧ Aside0 (impl_cycles.l1 kq l m1 at_ long = some (met2, long2)) ∧ Aside0 (Kd.R (Kd.int .i64) 3 w' w.heap.size (fun k => k ≠ gl ∧ k ≠ ga) u3 out) ∧ Aside0 (Go.Proofs.YtgnngpkaddbhiaaDoorU.Arr w' ga 92 (m1.map Value.bool)) ∧ Aside0 (w'.heap[gl]? = some (.cells cur 3 (0, 0))) ∧ Aside0 (Below w.heap.size w w'))
      case atStart => exact ⟨met, (i : Int), 0, rfl, rfl, by omega, by omega, HM, HI1, HO, HAr, HBL, HB⟩
      case round =>
        clear HI1 HO HAr HBL HB HM
        obtain ⟨m1, at_, long, rfl, rfl, hl0, hl7, HM, HI1, HO, HAr, HBL, HB⟩ := hrel
        cases gk with
        | zero => exact absurd HI1.out (by simp [impl_cycles.l1])
        | succ k2 =>
        have H := HI1.out
        clear HI1
        simp only [impl_cycles.l1] at H
        by_cases hat : 0 ≤ at_ ∧ at_ < 6
        · rw [if_pos hat] at H
          obtain ⟨ha0, ha6⟩ := hat
          have hca := Go.Proofs.YtgnngpkaddbhiaaDoorU.Arr.cell HAr.out at_.toNat (.bool (rdOf false m1 at_)) (by have := HM.out; simp [rdOf, List.getD]; rw [List.getElem?_eq_getElem (by omega)]; simp)
          have hfa := Go.Proofs.YtgnngpkaddbhiaaDoorU.Arr.free HAr.out at_.toNat
          cases hm : rdOf false m1 at_ with
          | true =>
            rw [if_pos hm] at H
            rw [hm] at hca
            injection H with H
            injection H with H1 H2
            subst H1 H2
            by_cases hl : long > 0
            · have H3 := Aside0.mk (show (impl_cycles.l0 k1 l (out ++ [long]) m1 (↑i + 1)).bind slices_Sort_int_int.f = some r from by have := HI2.out; simpa only [if_pos hl] using this)
              have hsz1 : gl < wr.heap.size := (Array.getElem?_eq_some_iff.1 HBL.out).1
              have hsz2 := Go.Proofs.YtgnngpkaddbhiaaDoorU.Arr.lt HAr.out
              go_wp2_with ((with_reducible refine gate_builtin (b := .append) (xs := #[.tmp 31, .tmp 33]) rfl ?_); at_builtin; refine Kd.R_append (Kd.int .i64) (w0 := w) w.heap.size rfl (.tmp 31) (.tmp 33) 31 3 (.int .i64 0) 8 rfl Tryd.underlying31 info3 rfl (by decide) (by omega) u3 out long [.int .i64 long] (fun k => k ≠ gl ∧ k ≠ ga) (fun _ => False) rfl rfl ?aP (fun _ hk => hk.elim) ?aF ?aO ?aB ?aS ?aL ?_; (case aP => exact rfl); (case aB => exact HB.out); (case aF => exact fun k hk => ⟨by omega, by omega⟩); (case aO => exact HO.out); (case aS => exact below_size HB.out); (case aL => have := HLn.out; omega); intro v34 w5 ho hb hg hat; have HO2 := Aside0.mk ho; have HB2 := Aside0.mk hb; have HG2 := Aside0.mk hg; clear ho hb hg hat)
              go_roundg k1
              case measure => omega
              case rel =>
                have ne1 : some gl ≠ u3.ownBlock := fun e => (HO.out.1 gl e.symm).1 rfl
                have ne2 : some ga ≠ u3.ownBlock := fun e => (HO.out.1 ga e.symm).2 rfl
                exact ⟨out ++ [long], m1, i + 1, by go_num, by omega, HM, by simpa using H3, HO2, ⟨by have := HLn.out; simp; omega⟩, ⟨HAr.out.grown HG2.out ne2⟩, ⟨(HG2.out.block gl hsz1 ne1).trans HBL.out⟩, HB2⟩
            · have H3 := Aside0.mk (show (impl_cycles.l0 k1 l out m1 (↑i + 1)).bind slices_Sort_int_int.f = some r from by have := HI2.out; simpa only [if_neg hl] using this)
              go_wp2
              go_roundg k1
              case measure => omega
              case rel => exact ⟨out, m1, i + 1, by go_num, by omega, HM, by simpa using H3, HO, ⟨by have := HLn.out; omega⟩, HAr, HBL, HB⟩
          | false =>
            rw [if_neg (by rw [hm]; simp)] at H
            rw [hm] at hca
            have hcl := Go.Proofs.YtgnngpkaddbhiaaDoorU.cell_of_nums HBL.out HTL.out at_.toNat (by have := HLen.out; omega)
            have hcl2 : (wr.setCell ⟨ga, at_.toNat, none⟩ (.bool true)).cell? ⟨gl, at_.toNat, none⟩ = some (.int .i64 (rd l at_)) := by
              rw [World.cell?, Below.heap_setCell wr _ _ gl (by simp; omega)]
              exact hcl
            have hll : at_ < (l.length : Int) := by have := HLen.out; omega
            clear hcl
            have H' := Aside0.mk H
            clear H
            go_wp2
            go_roundg k2
            case measure => omega
            case rel => exact ⟨m1.set at_.toNat true, rd l at_, long + 1, rfl, rfl, by omega, by omega, ⟨by simpa using HM.out⟩, H', ⟨Kd.R_move HO.out (fun k hk => Below.heap_setCell wr _ _ k hk.2)⟩, ⟨by have := HAr.out.set at_.toNat (.bool true); simpa [List.map_set] using this⟩, ⟨(Below.heap_setCell wr _ _ gl (by simp; omega)).trans HBL.out⟩, ⟨HB.out.setCell HGA _⟩⟩
        · rw [if_neg hat] at H
          cases H
    · rw [if_neg hlt] at H
      have H' := Aside0.mk (show slices_Sort_int_int.f out = some r from H)
      clear H
      go_wp2_with (go_at_call 66; (with_reducible refine (slices_Sort_int_int.calls (fun k => k ≠ gl ∧ k ≠ ga) _ out r w _ HB.out HO.out H'.out).mono ?_); rintro e w9 ⟨rfl, ho, hb, hk⟩; have HR := Aside0.mk ho; have HBB := Aside0.mk hb; clear ho hb hk)
      go_ret
      exact ⟨_, rfl, Kd.R_mono HR.out (fun _ _ => trivial), HBB.out⟩
end Go.Proofs.YtgnngpkaddbhiaaDoor.P

namespace Go.Proofs.YtgnngpkaddbhiaaDoor.P
open Go.RowKit Go.Proofs.YtgnngpkaddbhiaaDoorW.PrintWords Go.Proofs.YtgnngpkaddbhiaaDoorW.PrintLast Go.Proofs.YtgnngpkaddbhiaaDoorW.PrintMore
attribute [local go_sem] max2_int min2_int max_two min_two max_three min_three max_four min_four
set_option linter.unusedVariables false
set_option linter.unusedSimpArgs false
def impl_FaceCycles.f (k : Nat) (a0 : ByteArray) : Option (List Int × Bool) := (impl_IsRolls.f a0).bind fun t101 => (if t101 = true then ((impl_plain.f).bind fun bt102 => ((impl_Die_rolled.f k bt102.1 bt102.2.1 bt102.2.2.1 bt102.2.2.2.1 bt102.2.2.2.2.1 bt102.2.2.2.2.2 a0).bind fun bt108 => ((impl_cycles.f bt108.1 bt108.2.1 bt108.2.2.1 bt108.2.2.2.1 bt108.2.2.2.2.1 bt108.2.2.2.2.2).bind fun t114 => (some (t114, true))))) else (some (([] : List Int), false)))
theorem impl_FaceCycles.mono : ∀ a0 k, LeO (impl_FaceCycles.f k a0) (impl_FaceCycles.f (k + 1) a0) := by
  intro a0 k
  unfold impl_FaceCycles.f
  repeat' first
      | (with_reducible exact impl_Die_rolled.mono _ _ _ _ _ _ _ _)
      | (with_reducible exact LeO.refl _)
      | (with_reducible exact LeO.none _)
      | (with_reducible refine LeO.ite ?_ ?_)
      | (with_reducible refine LeO.bind ?_ (fun _ => ?_))
      | exact impl_Die_rolled.mono _ _ _ _ _ _ _ _
      | exact LeO.none _
      | refine LeO.ite ?_ ?_
      | refine LeO.bind ?_ (fun _ => ?_)
set_option maxHeartbeats 8000000 in
set_option maxRecDepth 100000 in
theorem impl_FaceCycles.calls (k : Nat) (a0 : ByteArray) (r1 : List Int) (r2 : Bool) (w : World) (h : impl_FaceCycles.f k a0 = some (r1, r2)) :
    Calls Tryd.prog 15 #[.string a0] w fun e w' => ∃ v0_ : Value, e = .returned (.tuple #[v0_, .bool r2]) ∧ Kd.R (Kd.int .i64) 3 w' w.heap.size (fun _ => True) v0_ r1 ∧ Below w.heap.size w w' := by
  have HB := Aside0.mk (Below.refl w.heap.size w)
  have H : ((impl_IsRolls.f a0).bind fun t101 => (if t101 = true then ((impl_plain.f).bind fun bt102 => ((impl_Die_rolled.f k bt102.1 bt102.2.1 bt102.2.2.1 bt102.2.2.2.1 bt102.2.2.2.2.1 bt102.2.2.2.2.2 a0).bind fun bt108 => ((impl_cycles.f bt108.1 bt108.2.1 bt108.2.2.1 bt108.2.2.2.1 bt108.2.2.2.2.1 bt108.2.2.2.2.2).bind fun t114 => (some (t114, true))))) else (some (([] : List Int), false)))) = some (r1, r2) := h
  clear h
  replace H := Option.bind_eq_some_iff.mp H
  obtain ⟨t101, A20, H⟩ := H
  replace H : (if t101 = true then ((impl_plain.f).bind fun bt102 => ((impl_Die_rolled.f k bt102.1 bt102.2.1 bt102.2.2.1 bt102.2.2.2.1 bt102.2.2.2.2.1 bt102.2.2.2.2.2 a0).bind fun bt108 => ((impl_cycles.f bt108.1 bt108.2.1 bt108.2.2.1 bt108.2.2.2.1 bt108.2.2.2.2.1 bt108.2.2.2.2.2).bind fun t114 => (some (t114, true))))) else (some (([] : List Int), false))) = some (r1, r2) := H
  have A2 := Aside0.mk A20
  clear A20
  by_cases c3 : t101 = true
  · subst c3
    have H1 : ((impl_plain.f).bind fun bt102 => ((impl_Die_rolled.f k bt102.1 bt102.2.1 bt102.2.2.1 bt102.2.2.2.1 bt102.2.2.2.2.1 bt102.2.2.2.2.2 a0).bind fun bt108 => ((impl_cycles.f bt108.1 bt108.2.1 bt108.2.2.1 bt108.2.2.2.1 bt108.2.2.2.2.1 bt108.2.2.2.2.2).bind fun t114 => (some (t114, true))))) = some (r1, r2) := by rw [if_pos rfl] at H; exact H
    clear H
    have H := H1
    clear H1
    replace H := Option.bind_eq_some_iff.mp H
    obtain ⟨⟨t102, t103, t104, t105, t106, t107⟩, A40, H⟩ := H
    replace H : ((impl_Die_rolled.f k t102 t103 t104 t105 t106 t107 a0).bind fun bt108 => ((impl_cycles.f bt108.1 bt108.2.1 bt108.2.2.1 bt108.2.2.2.1 bt108.2.2.2.2.1 bt108.2.2.2.2.2).bind fun t114 => (some (t114, true)))) = some (r1, r2) := H
    have A4 := Aside0.mk A40
    clear A40
    replace H := Option.bind_eq_some_iff.mp H
    obtain ⟨⟨t108, t109, t110, t111, t112, t113⟩, A50, H⟩ := H
    replace H : ((impl_cycles.f t108 t109 t110 t111 t112 t113).bind fun t114 => (some (t114, true))) = some (r1, r2) := H
    have A5 := Aside0.mk A50
    clear A50
    replace H := Option.bind_eq_some_iff.mp H
    obtain ⟨t114, A60, H⟩ := H
    replace H : (some (t114, true)) = some (r1, r2) := H
    have A6 := Aside0.mk A60
    clear A60
    simp only [Option.some.injEq, Prod.mk.injEq] at H
    obtain ⟨rfl, rfl⟩ := H
    go_enter Tryd.func15, Tryd.ntmps15
    go_wp2_with (first | ((with_reducible refine gate_callee (f := 18) rfl ?_); refine goesL_ (some 5) rfl rfl Tryd.func18 (by kernel_rfl) rfl #[.string a0] rfl (by (try simp only [List.map_toArray, List.map_cons, List.map_nil]); first | done | rfl | (simp only [List.length_drop, List.length_take]; rfl)) ?_; (with_reducible refine (impl_IsRolls.calls a0 true _ A2.out).mono ?_); rintro e w7 ⟨rfl, hb⟩; refine ⟨_, rfl, ?_⟩; have n0_ := Aside0.mk (below_step (by repeat (first | (with_reducible first | exact HB.out | apply below_alloc | apply pw_below_drewN | apply below_drew1) | exact HB.out)) hb); clear HB; have HB := n0_; clear n0_; (try clear hb); (try clear hb2); (try clear hk); (try clear hi)) | ((with_reducible refine gate_callee (f := 30) rfl ?_); refine goesL_ (some 7) rfl rfl Tryd.func30 (by kernel_rfl) rfl #[] rfl (by (try simp only [List.map_toArray, List.map_cons, List.map_nil]); first | done | rfl | (simp only [List.length_drop, List.length_take]; rfl)) ?_; (with_reducible refine (impl_plain.calls  t102 t103 t104 t105 t106 t107 _ A4.out).mono ?_); rintro e w8 ⟨rfl, hb⟩; refine ⟨_, rfl, ?_⟩; have n0_ := Aside0.mk (below_step (by repeat (first | (with_reducible first | exact HB.out | apply below_alloc | apply pw_below_drewN | apply below_drew1) | exact HB.out)) hb); clear HB; have HB := n0_; clear n0_; (try clear hb); (try clear hb2); (try clear hk); (try clear hi)) | ((with_reducible refine gate_callee (f := 31) rfl ?_); refine goesL_ (some 9) rfl rfl Tryd.func31 (by kernel_rfl) rfl #[.agg #[.int .i64 t102, .int .i64 t103, .int .i64 t104, .int .i64 t105, .int .i64 t106, .int .i64 t107], .string a0] rfl (by (try simp only [List.map_toArray, List.map_cons, List.map_nil]); first | done | rfl | (simp only [List.length_drop, List.length_take]; rfl)) ?_; (with_reducible refine (impl_Die_rolled.calls k t102 t103 t104 t105 t106 t107 a0 t108 t109 t110 t111 t112 t113 _ A5.out).mono ?_); rintro e w9 ⟨rfl, hb⟩; refine ⟨_, rfl, ?_⟩; have n0_ := Aside0.mk (below_step (by repeat (first | (with_reducible first | exact HB.out | apply below_alloc | apply pw_below_drewN | apply below_drew1) | exact HB.out)) hb); clear HB; have HB := n0_; clear n0_; (try clear hb); (try clear hb2); (try clear hk); (try clear hi)) | ((with_reducible refine gate_callee (f := 39) rfl ?_); refine goesL_ (some 10) rfl rfl Tryd.func39 (by kernel_rfl) rfl #[.agg #[.int .i64 t108, .int .i64 t109, .int .i64 t110, .int .i64 t111, .int .i64 t112, .int .i64 t113]] rfl (by (try simp only [List.map_toArray, List.map_cons, List.map_nil]); first | done | rfl | (simp only [List.length_drop, List.length_take]; rfl)) ?_; (with_reducible refine (impl_cycles.calls t108 t109 t110 t111 t112 t113 t114 _ A6.out).mono ?_); rintro e w10 ⟨v115, rfl, ho0, hb⟩; refine ⟨_, rfl, ?_⟩; have n0_ := Aside0.mk (Kd.R_lower ho0 (below_size (by repeat (first | (with_reducible first | exact HB.out | apply below_alloc | apply pw_below_drewN | apply below_drew1) | exact HB.out)))); have n1_ := Aside0.mk (below_step (by repeat (first | (with_reducible first | exact HB.out | apply below_alloc | apply pw_below_drewN | apply below_drew1) | exact HB.out)) hb); clear HB; have HO116 := n0_; have HB := n1_; clear n0_ n1_; (try clear hb); (try clear hb2); (try clear hk); (try clear hi); (try clear ho0)))
    go_ret2
    exact ⟨_, by first | rfl | (simp [errW_none, errW_some] <;> rfl) | (simp [*, errW_none, errW_some] <;> rfl), by (with_reducible repeat (first | apply Kd.R_alloc | apply Kd.R_drewN | apply Kd.R_drew)); exact HO116.out, by repeat (first | (with_reducible first | exact HB.out | apply below_alloc | apply pw_below_drewN | apply below_drew1) | exact HB.out)⟩
  · replace c3 := Bool.eq_false_iff.mpr c3
    subst c3
    have H1 : (some (([] : List Int), false)) = some (r1, r2) := by rw [if_neg (show ¬ (false = true) by decide)] at H; exact H
    clear H
    have H := H1
    clear H1
    simp only [Option.some.injEq, Prod.mk.injEq] at H
    obtain ⟨rfl, rfl⟩ := H
    go_enter Tryd.func15, Tryd.ntmps15
    go_wp2_with (first | ((with_reducible refine gate_callee (f := 18) rfl ?_); refine goesL_ (some 5) rfl rfl Tryd.func18 (by kernel_rfl) rfl #[.string a0] rfl (by (try simp only [List.map_toArray, List.map_cons, List.map_nil]); first | done | rfl | (simp only [List.length_drop, List.length_take]; rfl)) ?_; (with_reducible refine (impl_IsRolls.calls a0 false _ A2.out).mono ?_); rintro e w11 ⟨rfl, hb⟩; refine ⟨_, rfl, ?_⟩; have n0_ := Aside0.mk (below_step (by repeat (first | (with_reducible first | exact HB.out | apply below_alloc | apply pw_below_drewN | apply below_drew1) | exact HB.out)) hb); clear HB; have HB := n0_; clear n0_; (try clear hb); (try clear hb2); (try clear hk); (try clear hi)))
    go_ret2
    exact ⟨_, by first | rfl | (simp [errW_none, errW_some] <;> rfl) | (simp [*, errW_none, errW_some] <;> rfl), by first | exact Kd.R_nil _ _ _ _ _ | exact Kd.N_nil _ _ _ _ _ | exact Kd.V_nil _ _ _ _ _ | exact Kd.Q_nil _ _ _ _ _ | exact Kd.S_nil _ _ _ _ _, by repeat (first | (with_reducible first | exact HB.out | apply below_alloc | apply pw_below_drewN | apply below_drew1) | exact HB.out)⟩
end Go.Proofs.YtgnngpkaddbhiaaDoor.P
