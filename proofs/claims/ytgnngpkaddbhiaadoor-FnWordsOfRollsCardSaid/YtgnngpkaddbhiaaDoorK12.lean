-- Packed by this work's pack.py. Not trusted: Lean checks it.
import Derived.BigRegion
import Derived.RegionTactic
import Derived.Test.YtgnngpkaddbhiaaDoorK11
namespace Go.Proofs.YtgnngpkaddbhiaaDoor.P
open Go.RowKit Go.Proofs.YtgnngpkaddbhiaaDoorW.PrintWords Go.Proofs.YtgnngpkaddbhiaaDoorW.PrintLast Go.Proofs.YtgnngpkaddbhiaaDoorW.PrintMore
attribute [local go_sem] max2_int min2_int max_two min_two max_three min_three max_four min_four
set_option linter.unusedVariables false
set_option linter.unusedSimpArgs false
def mixR (xs : List Int) (k : Nat) : List Int := (List.range xs.length).map fun i => if i < k ∨ xs.length - k ≤ i then xs.getD (xs.length - 1 - i) 0 else xs.getD i 0
theorem mixR_len (xs : List Int) (k : Nat) : (mixR xs k).length = xs.length := by simp [mixR]
theorem mixR_zero (xs : List Int) : mixR xs 0 = xs := by
  apply List.ext_getElem (by simp [mixR])
  intro i h1 h2
  simp [mixR, List.getD, h2]
  intro h; omega
theorem mixR_get (xs : List Int) (k i : Nat) (h : i < xs.length) (h1 : k ≤ i) (h2 : i < xs.length - k) : (mixR xs k).getD i 0 = xs.getD i 0 := by
  simp [mixR, List.getD, h]
  intro h3; omega
theorem mixR_set (xs : List Int) (k : Nat) (h : k < xs.length - 1 - k) : ((mixR xs k).set k (xs.getD (xs.length - 1 - k) 0)).set (xs.length - 1 - k) (xs.getD k 0) = mixR xs (k + 1) := by
  apply List.ext_getElem (by simp [mixR])
  intro i h1 h2
  simp only [mixR_len] at h2
  simp only [mixR, List.getElem_set, List.getElem_map, List.getElem_range]
  split
  · subst_vars
    rw [if_pos (by omega)]
    congr 1; omega
  · split
    · subst_vars
      rw [if_pos (by omega)]
    · by_cases h3 : i < k ∨ xs.length - k ≤ i
      · rw [if_pos h3, if_pos (by omega)]
      · rw [if_neg h3, if_neg (by omega)]
theorem mixR_end (xs : List Int) (k : Nat) (h : xs.length - 1 - k ≤ k) : mixR xs k = xs.reverse := by
  apply List.ext_getElem (by simp [mixR])
  intro i h1 h2
  simp only [mixR_len] at h1
  simp only [mixR, List.getElem_map, List.getElem_range, List.getElem_reverse]
  split
  · simp [List.getD]; rw [List.getElem?_eq_getElem (by omega)]; rfl
  · have : xs.length - 1 - i = i := by omega
    simp [List.getD, this, h1]
set_option maxHeartbeats 4000000 in
set_option maxRecDepth 100000 in
theorem reverse_MB (g cap : Nat) (xs : List Int) (w : World) (hm : Go.Proofs.YtgnngpkaddbhiaaDoorU.MB w g 5 xs) (hsz : xs.length ≤ 9223372036854775807) :
    Calls Tryd.prog 37 #[.slice (some ⟨g, 0, none⟩) xs.length cap] w fun e w' => e = .returned (.tuple #[]) ∧ Go.Proofs.YtgnngpkaddbhiaaDoorU.MB w' g 5 xs.reverse ∧ Below g w w' := by
  have HM0 := Aside0.mk (show Go.Proofs.YtgnngpkaddbhiaaDoorU.MB w g 5 (mixR xs 0) by rw [mixR_zero]; exact hm)
  clear hm
  go_enter Tryd.func37, Tryd.ntmps37
  go_wp2
  go_loopw [2, 3] (fun v2 v3 w' => ∃ k : Nat, 2 * k ≤ xs.length + 1 ∧ v2 = .int .i64 k ∧ v3 = .int .i64 ((xs.length : Int) - 1 - k) ∧ Aside0 (Go.Proofs.YtgnngpkaddbhiaaDoorU.MB w' g 5 (mixR xs k)) ∧ Aside0 (Below g w w')) (fun v2 _ _ => xs.length - (intOf v2).toNat)
  case atStart => exact ⟨0, by omega, rfl, by simp, HM0, ⟨Below.refl _ _⟩⟩
  case round =>
    clear HM0
    obtain ⟨k, hk, rfl, rfl, HM, HB⟩ := hrel
    by_cases hlt : (k : Int) < (xs.length : Int) - 1 - k
    · obtain ⟨j, hj⟩ : ∃ j : Nat, j = xs.length - 1 - k := ⟨_, rfl⟩
      have ej : (xs.length : Int) - 1 - k = (j : Int) := by omega
      have hjl : j < xs.length := by omega
      have hkl : k < xs.length := by omega
      have hkj : k < j := by omega
      have hlen := mixR_len xs k
      have hc1 := HM.out.cell k (by omega)
      have hc2 := HM.out.cell j (by omega)
      have hf1 := HM.out.free k (by omega)
      have hf2 := HM.out.free j (by omega)
      rw [mixR_get xs k k hkl (by omega) (by omega)] at hc1
      rw [mixR_get xs k j hjl (by omega) (by omega)] at hc2
      generalize hx : xs.getD k 0 = x at hc1
      generalize hy : xs.getD j 0 = y at hc2
      have HX := Aside0.mk hx
      have HY := Aside0.mk hy
      have HJ := Aside0.mk hj
      have HL := Aside0.mk hlen
      rw [ej]
      have HE := Aside0.mk ej
      clear hx hy hj hlen ej
      go_wp2
      go_region
      all_goals go_wp2
      go_roundw
      case rel =>
        have hs := (HM.out.set k (by rw [HL.out]; omega) y).set j (by rw [List.length_set, HL.out]; omega) x
        rw [← HX.out, ← HY.out, HJ.out, mixR_set xs k (by have := HJ.out; omega)] at hs
        rw [HX.out, ← HJ.out, HY.out] at hs
        exact ⟨k + 1, by omega, by go_num, by have := HE.out; congr 1; omega, ⟨hs.keep rfl⟩, ⟨((HB.out.setCell (Nat.le_refl _) _).setCell (Nat.le_refl _) _).drew⟩⟩
      case measure => simp [intOf]; omega
    · go_wp2
      go_end0
      exact ⟨rfl, by have := HM.out; rwa [mixR_end xs k (by omega)] at this, HB.out⟩
def impl_BackWord.f (a0 : ByteArray) : Option (ByteArray × Bool) := (impl_IsRolls.f a0).bind fun t => if t = true then (impl_turned.f a0 2).bind fun s => if s.size ≤ 9223372036854775807 then some (strOfNums (bytesOf s).reverse, true) else none else some ((⟨#[]⟩ : ByteArray), false)
set_option maxHeartbeats 4000000 in
set_option maxRecDepth 100000 in
theorem impl_BackWord.calls (a0 : ByteArray) (r1 : ByteArray) (r2 : Bool) (w : World) (h : impl_BackWord.f a0 = some (r1, r2)) :
    Calls Tryd.prog 11 #[.string a0] w fun e w' => e = .returned (.tuple #[.string r1, .bool r2]) ∧ Below w.heap.size w w' := by
  unfold impl_BackWord.f at h
  obtain ⟨t, h1, h2⟩ := Option.bind_eq_some_iff.mp h
  have H1 := Aside0.mk h1
  clear h h1
  cases t with
  | false =>
    rw [if_neg (by simp)] at h2
    injection h2 with h2
    injection h2 with h2 h3
    subst h2 h3
    go_enter Tryd.func11, Tryd.ntmps11
    go_wp2_with (go_at_call 18; (with_reducible refine (impl_IsRolls.calls _ _ _ H1.out).mono ?_); rintro e w1 ⟨rfl, hb⟩; have HB := Aside0.mk hb; clear hb)
    go_ret2
    exact ⟨rfl, HB.out⟩
  | true =>
    rw [if_pos rfl] at h2
    obtain ⟨s, h3, h4⟩ := Option.bind_eq_some_iff.mp h2
    have H3 := Aside0.mk h3
    clear h2 h3
    split at h4
    · rename_i hsz
      injection h4 with h4
      injection h4 with h4 h5
      subst h4 h5
      have HL := Aside0.mk (show (bytesOf s).length = s.size by simp [bytesOf])
      go_enter Tryd.func11, Tryd.ntmps11
      go_wp2_with (first | (go_at_call 18; (with_reducible refine (impl_IsRolls.calls _ _ _ H1.out).mono ?_); rintro e w1 ⟨rfl, hb⟩; have HB := Aside0.mk hb; clear hb) | (go_at_call 36; (with_reducible refine (impl_turned.calls _ _ _ _ H3.out).mono ?_); rintro e w2 ⟨rfl, hb⟩; have n0_ := Aside0.mk (below_step HB.out hb); clear HB; have HB := n0_; clear n0_ hb) | ((with_reducible refine gate_dst (N := 10) rfl ?_); refine Go.Proofs.YtgnngpkaddbhiaaDoorU.bytes_event rfl (N := 10) rfl (s := 9) (t := 24) (b := s) rfl rfl Tryd.underlying9 Tryd.underlying24 Tryd.underlying5 hsz ?_; intro g hg w3 cap hmb hb hcap; have hge : w.heap.size ≤ g := Nat.le_trans (below_size HB.out) (Nat.le_of_eq hg.symm); have n0_ := Aside0.mk (below_step HB.out hb); have HMB := Aside0.mk hmb; clear HB; have HB := n0_; clear n0_ hb hg hmb) | (go_at_call 37; rw [← HL.out]; (with_reducible refine (reverse_MB g cap (bytesOf s) _ HMB.out (by rw [HL.out]; exact hsz)).mono ?_); rintro e w4 ⟨rfl, hm, hb⟩; have n0_ := Aside0.mk (HB.out.trans (hb.mono hge)); have hmC := hm.C; rw [List.length_reverse] at hmC; have hcv := Kd.C_string (P := Tryd.prog) (A := some ⟨g, 0, none⟩) (c := cap) Tryd.underlying24 Tryd.underlying5 Tryd.underlying9 hmC; clear HB HMB hm hmC; have HB := n0_; clear n0_ hb))
      go_ret2
      exact ⟨rfl, HB.out⟩
    · cases h4
end Go.Proofs.YtgnngpkaddbhiaaDoor.P

namespace Go.Proofs.YtgnngpkaddbhiaaDoor.P
open Go.RowKit Go.Proofs.YtgnngpkaddbhiaaDoorW.PrintWords Go.Proofs.YtgnngpkaddbhiaaDoorW.PrintLast Go.Proofs.YtgnngpkaddbhiaaDoorW.PrintMore Go.Proofs.YtgnngpkaddbhiaaDoorU
set_option linter.unusedVariables false
set_option linter.unusedSimpArgs false
set_option maxRecDepth 100000
theorem shortest_eq (k : Nat) (hk : 40 ≤ k) (e : D6) : impl_shortest.f k 0 1 2 3 4 5 e.1 e.2.1 e.2.2.1 e.2.2.2.1 e.2.2.2.2.1 e.2.2.2.2.2 = some (shortW e) := by
  unfold impl_shortest.f
  rw [shortWords_eq]
  simp only [Option.bind_some]
  have h24 : SWn.length = 24 := by decide
  have := shortest_aux P0 e rfl SWn.length 0 k (by omega) (by omega) (by omega)
  simpa [shortW, shortN, P0] using this
theorem lie_def (w : ByteArray) (h : okW w = true) (k : Nat) (hk : 70 ≤ k) : impl_Die_rolled.f k 0 1 2 3 4 5 w = some (lieW w) :=
  rolled_eq k P0 w (by have := okW_size h; omega) (by have := okW_size h; omega)
theorem lie_def' (w : ByteArray) (h : okW w = true) (k : Nat) (hk : 70 ≤ k) : spec_diRun.f k 0 1 2 3 4 5 w = some (lieW w) :=
  diRun_eq k P0 w (by have := okW_size h; omega) (by have := okW_size h; omega)
theorem shortestRolls_eq (k : Nat) (hk : 70 ≤ k) (w : ByteArray) : impl_ShortestRolls.f k w = some (if okW w = true then shortW (lieW w) else (⟨#[]⟩, false)) := by
  unfold impl_ShortestRolls.f
  rw [isRolls_eq]
  simp only [Option.bind_some, impl_plain.f]
  cases h : okW w with
  | false => rfl
  | true =>
    rw [if_pos rfl, if_pos rfl, lie_def w h k hk]
    simp only [Option.bind_some]
    rw [shortest_eq k (by omega)]
    rfl
theorem search_eq (k : Nat) (hk : 4000 ≤ k) : spec_diSearch.f k 0 1 2 3 4 5 = some (D24.map fun d => (⟨d.1, d.2.1, d.2.2.1, d.2.2.2.1, d.2.2.2.2.1, d.2.2.2.2.2⟩ : S42), SW) :=
  le_fuel (f := fun k => spec_diSearch.f k 0 1 2 3 4 5) (spec_diSearch.mono _ _ _ _ _ _) (k := 4000) (by kernel_rfl) hk
theorem wordTo_aux (e : D6) : ∀ (m j k : Nat), SWn.length - j = m → j ≤ SWn.length → m + 10 < k →
    spec_diWordTo.l0 k (D24.map fun d => (⟨d.1, d.2.1, d.2.2.1, d.2.2.2.1, d.2.2.2.2.1, d.2.2.2.2.2⟩ : S42)) SW (24 : Int) (j : Int) e.1 e.2.1 e.2.2.1 e.2.2.2.1 e.2.2.2.2.1 e.2.2.2.2.2 = some (ofFind ((SWn.drop j).find? fun w => runD P0 w == e)) := by
  have h24 : SWn.length = 24 := by decide
  have hd : D24.length = 24 := by decide
  have hs : SW.length = 24 := by decide
  intro m
  induction m with
  | zero =>
    intro j k hm hj hk
    obtain ⟨k, rfl⟩ : ∃ k', k = k' + 1 := ⟨k - 1, by omega⟩
    rw [spec_diWordTo.l0, if_neg (by omega), List.drop_eq_nil_of_le (by omega)]
    rfl
  | succ m ih =>
    intro j k hm hj hk
    obtain ⟨k, rfl⟩ : ∃ k', k = k' + 1 := ⟨k - 1, by omega⟩
    have hjl : j < SWn.length := by omega
    have hjd : j < D24.length := by omega
    have hrd : rd_T42 (D24.map fun d => (⟨d.1, d.2.1, d.2.2.1, d.2.2.2.1, d.2.2.2.2.1, d.2.2.2.2.2⟩ : S42)) (j : Int) = ⟨(runD P0 SWn[j]).1, (runD P0 SWn[j]).2.1, (runD P0 SWn[j]).2.2.1, (runD P0 SWn[j]).2.2.2.1, (runD P0 SWn[j]).2.2.2.2.1, (runD P0 SWn[j]).2.2.2.2.2⟩ := by
      simp [rd_T42, List.getD, hjd, D24, hjl]
      exact ⟨rfl, rfl, rfl, rfl, rfl, rfl⟩
    rw [spec_diWordTo.l0, if_pos (by omega), if_pos (by omega), if_pos (by rw [List.length_map]; omega), hrd, SW_get j hjl, List.drop_eq_getElem_cons hjl, List.find?_cons, wrap_succ j (by omega)]
    have he : ((runD P0 SWn[j]).1 == e.1 && ((runD P0 SWn[j]).2.1 == e.2.1 && ((runD P0 SWn[j]).2.2.1 == e.2.2.1 && ((runD P0 SWn[j]).2.2.2.1 == e.2.2.2.1 && ((runD P0 SWn[j]).2.2.2.2.1 == e.2.2.2.2.1 && ((runD P0 SWn[j]).2.2.2.2.2 == e.2.2.2.2.2)))))) = (runD P0 SWn[j] == e) := rfl
    simp only [he]
    cases hb : (runD P0 SWn[j] == e) with
    | true => rw [if_pos rfl, if_pos (by omega)]; rfl
    | false => rw [if_neg (by simp)]; exact ih (j + 1) k (by omega) (by omega) (by omega)
theorem wordTo_eq (k : Nat) (hk : 4000 ≤ k) (e : D6) : spec_diWordTo.f k 0 1 2 3 4 5 e.1 e.2.1 e.2.2.1 e.2.2.2.1 e.2.2.2.2.1 e.2.2.2.2.2 = some (shortW e) := by
  unfold spec_diWordTo.f
  rw [search_eq k hk]
  simp only [Option.bind_some]
  have h24 : SWn.length = 24 := by decide
  have hd : D24.length = 24 := by decide
  have := wordTo_aux e SWn.length 0 k (by omega) (by omega) (by omega)
  rw [List.length_map, hd]
  simpa [shortW, shortN] using this
theorem shortestRolls_eq' (k : Nat) (hk : 4000 ≤ k) (w : ByteArray) : spec_ShortestRolls.f k w = some (if okW w = true then shortW (lieW w) else (⟨#[]⟩, false)) := by
  unfold spec_ShortestRolls.f
  rw [diWord_eq k w (by omega)]
  simp only [Option.bind_some, diUnit_eq, P0]
  cases h : okW w with
  | false => rfl
  | true =>
    rw [if_pos rfl, if_pos rfl, lie_def' w h k (by omega)]
    simp only [Option.bind_some]
    rw [wordTo_eq k hk]
    rfl
def opp (c : Int) : Int := if c = 110 then 115 else if c = 101 then 119 else if c = 115 then 110 else 101
def backN (l : List Int) : List Int := (l.map opp).reverse
def backW (w : ByteArray) : ByteArray := strOfNums (backN (bytesOf w))
theorem opp_range (c : Int) : 0 ≤ opp c ∧ opp c ≤ 255 := by
  unfold opp
  repeat' split
  all_goals omega
theorem opp_dir (c : Int) : isDir (opp c) = true := by
  unfold opp
  repeat' split
  all_goals rfl
theorem opp_opp (c : Int) (h : isDir c = true) : opp (opp c) = c := by
  rcases (isDir_iff c).1 h with rfl | rfl | rfl | rfl <;> rfl
theorem backN_range (l : List Int) : ∀ c ∈ backN l, 0 ≤ c ∧ c ≤ 255 := by
  intro c hc
  simp only [backN, List.mem_reverse, List.mem_map] at hc
  obtain ⟨x, _, rfl⟩ := hc
  exact opp_range x
theorem bytes_back (w : ByteArray) : bytesOf (backW w) = backN (bytesOf w) := bytes_strOfNums _ (backN_range _)
theorem backN_backN (l : List Int) (h : ∀ c ∈ l, isDir c = true) : backN (backN l) = l := by
  simp only [backN, List.map_reverse, List.reverse_reverse, List.map_map]
  conv => rhs; rw [← List.map_id l]
  exact List.map_congr_left (fun c hc => opp_opp c (h c hc))
theorem backW_backW (w : ByteArray) (h : okW w = true) : backW (backW w) = w := by
  apply bytes_inj
  rw [bytes_back, bytes_back, backN_backN _ (okW_all h)]
theorem okW_back (w : ByteArray) (h : okW w = true) : okW (backW w) = true := by
  have h1 := okW_size h
  simp only [okW, Bool.and_eq_true, decide_eq_true_eq, List.all_eq_true]
  refine ⟨?_, ?_⟩
  · rw [← bytes_length, bytes_back]
    simp [backN, bytes_length]; exact h1
  · rw [bytes_back]
    intro c hc
    simp only [backN, List.mem_reverse, List.mem_map] at hc
    obtain ⟨x, _, rfl⟩ := hc
    exact opp_dir x
theorem turnB_opp (c : Int) (h : isDir c = true) : turnB 2 c = opp c := by
  rcases (isDir_iff c).1 h with rfl | rfl | rfl | rfl <;> decide
theorem backWord_eq (w : ByteArray) : impl_BackWord.f w = some (if okW w = true then (backW w, true) else (⟨#[]⟩, false)) := by
  unfold impl_BackWord.f
  rw [isRolls_eq]
  simp only [Option.bind_some]
  cases h : okW w with
  | false => rfl
  | true =>
    have h1 := okW_size h
    rw [if_pos rfl, if_pos rfl]
    unfold impl_turned.f
    rw [if_pos ⟨by omega, by omega, by omega⟩]
    simp only [Option.bind_some]
    have e : (bytesOf w).map (turnB 2) = (bytesOf w).map opp := List.map_congr_left (fun c hc => turnB_opp c (okW_all h c hc))
    rw [e, if_pos (by rw [strOfNums_size, List.length_map, bytes_length]; omega), bytes_strOfNums _ (by
      intro c hc
      obtain ⟨x, _, rfl⟩ := List.mem_map.1 hc
      exact opp_range x)]
    rfl
end Go.Proofs.YtgnngpkaddbhiaaDoor.P
