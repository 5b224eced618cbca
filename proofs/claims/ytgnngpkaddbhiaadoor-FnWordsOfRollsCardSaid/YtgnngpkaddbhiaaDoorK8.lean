-- Packed by this work's pack.py. Not trusted: Lean checks it.
import Derived.Laws.Bits64b
import Derived.Test.YtgnngpkaddbhiaaDoorK7
namespace Go.Proofs.YtgnngpkaddbhiaaDoor.P
open Go.RowKit Go.Proofs.YtgnngpkaddbhiaaDoorW.PrintWords Go.Proofs.YtgnngpkaddbhiaaDoorW.PrintLast Go.Proofs.YtgnngpkaddbhiaaDoorW.PrintMore Go.Proofs.YtgnngpkaddbhiaaDoorU
set_option linter.unusedVariables false
set_option linter.unusedSimpArgs false
def BytesL (l : List Int) : Prop := (∀ x ∈ l, 0 ≤ x ∧ x ≤ 255) ∧ l.length ≤ 140737488351232
theorem bytesL_of {l : List Int} (h : ∀ x ∈ l, (Lit.int .u8 x).wf = true) (h2 : l.length * 1 ≤ 140737488351232) : BytesL l :=
  ⟨fun x hx => by
    have := h x hx
    unfold Lit.wf at this
    simp only [Bool.and_eq_true, decide_eq_true_eq] at this
    exact ⟨this.1, this.2⟩, by omega⟩
theorem u64_range (x : Int) : 0 ≤ IntKind.u64.wrap x ∧ IntKind.u64.wrap x < 18446744073709551616 := by
  have : IntKind.u64.wrap x = x % 18446744073709551616 := by rfl
  rw [this]; omega
theorem byte_of (x : Int) : 0 ≤ wrap64 (Go.bits .and .u64 (IntKind.u64.wrap x / 1099511627776) 255) ∧ wrap64 (Go.bits .and .u64 (IntKind.u64.wrap x / 1099511627776) 255) ≤ 255 := by
  obtain ⟨h0, h1⟩ := u64_range x
  obtain ⟨a, ha⟩ : ∃ a : Nat, IntKind.u64.wrap x / 1099511627776 = (a : Int) := ⟨(IntKind.u64.wrap x / 1099511627776).toNat, by omega⟩
  rw [ha]
  have hb := bits_and_u64_nat a 255 (by omega) (by decide)
  rw [show (255 : Int) = ((255 : Nat) : Int) from rfl, hb]
  have hle : a &&& 255 ≤ 255 := Nat.and_le_right
  rw [wrapS _ (by omega) (by omega)]
  omega
theorem next_some (l : List Int) (hl : BytesL l) (p s : Int) (h0 : 0 ≤ p) (h1 : p < 9000000000000000000) : ∃ v s', spec_l1Cur_next.f l p s = some (v, p + 1, s') ∧ 0 ≤ v ∧ v ≤ 255 := by
  have hw : wrap64 (p + 1) = p + 1 := wrapS _ (by omega) (by omega)
  unfold spec_l1Cur_next.f
  by_cases hlt : p < (l.length : Int)
  · rw [if_pos hlt, if_pos h0, hw, if_pos (by omega)]
    have hx : 0 ≤ rd l p ∧ rd l p ≤ 255 := by
      have hn : p.toNat < l.length := by omega
      have := hl.1 l[p.toNat] (List.getElem_mem _)
      simpa [rd, List.getD, hn] using this
    exact ⟨_, _, rfl, by rw [wrapS _ (by omega) (by omega)]; exact hx.1, by rw [wrapS _ (by omega) (by omega)]; exact hx.2⟩
  · rw [if_neg hlt, hw, if_neg (by omega)]
    have := byte_of (IntKind.u64.wrap (IntKind.u64.wrap (s * 6364136223846793005)) + 1442695040888963407)
    exact ⟨_, _, rfl, this.1, this.2⟩
theorem pick_some (l : List Int) (hl : BytesL l) (p s n : Int) (hp0 : 0 ≤ p) (hp1 : p ≤ 8000000000000000000) (hn : n < 4000000000000000000) : ∃ v p' s', spec_l1Cur_pick.f l p s n = some (v, p', s') ∧ 0 ≤ v ∧ (v < n ∨ v = 0) ∧ p ≤ p' ∧ p' ≤ p + 2 := by
  unfold spec_l1Cur_pick.f
  by_cases h1 : n ≤ 1
  · rw [if_pos h1]
    exact ⟨0, p, s, rfl, by omega, by omega, by omega, by omega⟩
  · rw [if_neg h1]
    obtain ⟨v, s', e, hv0, hv1⟩ := next_some l hl p s hp0 (by omega)
    rw [e]
    simp only [Option.bind_some]
    by_cases h2 : n > 200
    · rw [if_pos h2]
      obtain ⟨u, s2, e2, hu0, hu1⟩ := next_some l hl (p + 1) s' (by omega) (by omega)
      simp only [e2, Option.bind_some]
      rw [if_neg (by omega)]
      have hz : wrap64 (wrap64 (v * 256) + u) = v * 256 + u := by rw [wrapS (v * 256) (by omega) (by omega), wrapS _ (by omega) (by omega)]
      rw [hz]
      exact ⟨_, _, _, rfl, Int.tmod_nonneg _ (by omega), .inl (Int.tmod_lt_of_pos _ (by omega)), by omega, by omega⟩
    · rw [if_neg h2, if_neg (by omega)]
      refine ⟨_, _, _, rfl, Int.tmod_nonneg _ hv0, .inl ?_, by omega, by omega⟩
      exact Int.tmod_lt_of_pos _ (by omega)
end Go.Proofs.YtgnngpkaddbhiaaDoor.P

namespace Go.Proofs.YtgnngpkaddbhiaaDoor.P
open Go.RowKit Go.Proofs.YtgnngpkaddbhiaaDoorW.PrintWords Go.Proofs.YtgnngpkaddbhiaaDoorW.PrintLast Go.Proofs.YtgnngpkaddbhiaaDoorW.PrintMore Go.Proofs.YtgnngpkaddbhiaaDoorU
set_option linter.unusedVariables false
set_option linter.unusedSimpArgs false
theorem of_some (l : List Int) (hl : BytesL l) (p s : Int) (hp0 : 0 ≤ p) (hp1 : p ≤ 8000000000000000000) (xs : List ByteArray) (hx : 0 < xs.length) (hx2 : xs.length ≤ 1000000) :
    ∃ w p' s', spec_l1Cur_of.f l p s xs = some (w, p', s') ∧ w ∈ xs ∧ p ≤ p' ∧ p' ≤ p + 2 := by
  unfold spec_l1Cur_of.f
  obtain ⟨v, p', s', e, h0, h1, h2, h3⟩ := pick_some l hl p s (xs.length : Int) hp0 hp1 (by omega)
  rw [e]
  simp only [Option.bind_some]
  have hn : v.toNat < xs.length := by omega
  rw [if_pos h0, if_pos (by omega)]
  refine ⟨_, _, _, rfl, ?_, h2, h3⟩
  have : rdOf ByteArray.empty xs v = xs[v.toNat] := by simp [rdOf, List.getD, hn]
  rw [this]
  exact List.getElem_mem _
theorem spoilt_aux (l : List Int) (hl : BytesL l) (x2 : ByteArray) (h2a : 1 ≤ x2.size) (h2b : x2.size ≤ 1000000) : ∀ (m k : Nat) (x1 : ByteArray) (p s : Int), 2 * m + 2 ≤ k → m ≤ 100 → x1.size + m ≤ 1000000000 → 0 ≤ p → p + 6 * m ≤ 8000000000000000000 →
    ∃ w p' s', spec_l1Cur_spoilt.l0 k x1 x2 (m : Int) l p s = some (w, p', s') ∧ w.size ≤ x1.size + m ∧ p ≤ p' ∧ p' ≤ p + 6 * m := by
  intro m
  induction m with
  | zero =>
    intro k x1 p s hk hm hx hp0 hp1
    obtain ⟨k, rfl⟩ : ∃ k', k = k' + 2 := ⟨k - 2, by omega⟩
    rw [spec_l1Cur_spoilt.l0, if_neg (by omega), spec_l1Cur_spoilt.j1, if_neg (by simp)]
    exact ⟨_, _, _, rfl, by omega, by omega, by omega⟩
  | succ m ih =>
    intro k x1 p s hk hm hx hp0 hp1
    obtain ⟨k, rfl⟩ : ∃ k', k = k' + 2 := ⟨k - 2, by omega⟩
    rw [spec_l1Cur_spoilt.l0, if_pos (by omega), spec_l1Cur_spoilt.j1]
    by_cases h0 : x1.size = 0
    · rw [if_neg (by simp [h0])]
      exact ⟨_, _, _, rfl, by omega, by omega, by omega⟩
    · rw [if_pos (by simp; omega)]
      obtain ⟨i, p1, s1, e1, hi0, hi1, hp1a, hp1b⟩ := pick_some l hl p s (x1.size : Int) hp0 (by omega) (by omega)
      rw [e1]
      simp only [Option.bind_some]
      obtain ⟨j, p2, s2, e2, hj0, hj1, hp2a, hp2b⟩ := pick_some l hl p1 s1 (x2.size : Int) (by omega) (by omega) (by omega)
      rw [e2]
      simp only [Option.bind_some]
      rw [if_pos hj0, if_pos (by omega)]
      obtain ⟨c, p3, s3, e3, hc0, hc1, hp3a, hp3b⟩ := pick_some l hl p2 s2 3 (by omega) (by omega) (by omega)
      rw [e3]
      simp only [Option.bind_some]
      have hm1 : wrap64 (((m + 1 : Nat) : Int) - 1) = (m : Int) := wrap_pred m (by omega)
      have hi2 : wrap64 (i + 1) = i + 1 := wrapS _ (by omega) (by omega)
      have hsz1 : (strOfNums [bt x2 j]).size = 1 := by rw [strOfNums_size]; rfl
      have hin : i.toNat < x1.size := by omega
      have hin2 : (i + 1).toNat = i.toNat + 1 := by omega
      have hA : (x1.extract 0 i.toNat).size = i.toNat := by simp [ByteArray.size_extract]; omega
      have hB : (x1.extract i.toNat x1.size).size = x1.size - i.toNat := by simp [ByteArray.size_extract]
      have hC : (x1.extract (i.toNat + 1) x1.size).size = x1.size - (i.toNat + 1) := by simp [ByteArray.size_extract]
      rw [hm1, hi2, hin2]
      have fin : ∀ x : ByteArray, x.size ≤ x1.size + 1 → ∃ w p' s', spec_l1Cur_spoilt.l0 k x x2 (m : Int) l p3 s3 = some (w, p', s') ∧ w.size ≤ x1.size + (m + 1) ∧ p ≤ p' ∧ p' ≤ p + 6 * ((m + 1 : Nat) : Int) := by
        intro x hxx
        obtain ⟨w, p', s', e, hw, ha, hb⟩ := ih k x p3 s3 (by omega) (by omega) (by omega) (by omega) (by omega)
        exact ⟨w, p', s', e, by omega, by omega, by omega⟩
      by_cases hc : c = 0
      · rw [if_pos hc, if_pos hi0, if_pos (by omega), if_pos (by rw [hA, hsz1]; omega), if_pos (by rw [ByteArray.size_append, hA, hsz1, hB]; omega)]
        exact fin _ (by rw [ByteArray.size_append, ByteArray.size_append, hA, hsz1, hB]; omega)
      · rw [if_neg hc]
        by_cases hc' : c = 1
        · rw [if_pos hc', if_pos hi0, if_pos (by omega), if_pos (by rw [hA, hsz1]; omega), if_pos (by omega), if_pos (by omega), if_pos (by rw [ByteArray.size_append, hA, hsz1, hC]; omega)]
          exact fin _ (by rw [ByteArray.size_append, ByteArray.size_append, hA, hsz1, hC]; omega)
        · rw [if_neg hc', if_pos hi0, if_pos (by omega), if_pos (by omega), if_pos (by omega), if_pos (by rw [hA, hC]; omega)]
          exact fin _ (by rw [ByteArray.size_append, hA, hC]; omega)
theorem spoilt_some (l : List Int) (hl : BytesL l) (x1 x2 : ByteArray) (h1 : x1.size ≤ 100000000) (h2a : 1 ≤ x2.size) (h2b : x2.size ≤ 1000000) (k : Nat) (hk : 10 ≤ k) (p s : Int) (hp0 : 0 ≤ p) (hp1 : p ≤ 7000000000000000000) :
    ∃ w p' s', spec_l1Cur_spoilt.f k l p s x1 x2 = some (w, p', s') ∧ w.size ≤ x1.size + 2 ∧ p ≤ p' ∧ p' ≤ p + 14 := by
  unfold spec_l1Cur_spoilt.f
  obtain ⟨v, p1, s1, e, h0, h1', h2, h3⟩ := pick_some l hl p s 2 hp0 (by omega) (by omega)
  rw [e]
  simp only [Option.bind_some]
  have hv : wrap64 (1 + v) = ((v.toNat + 1 : Nat) : Int) := by rw [wrapS _ (by omega) (by omega)]; omega
  rw [hv]
  obtain ⟨w, p', s', e2, hw, ha, hb⟩ := spoilt_aux l hl x2 h2a h2b (v.toNat + 1) k x1 p1 s1 (by omega) (by omega) (by omega) (by omega) (by omega)
  exact ⟨w, p', s', e2, by omega, by omega, by omega⟩
theorem one_some (l : List Int) (hl : BytesL l) (p s n : Int) (hp0 : 0 ≤ p) (hp1 : p ≤ 8000000000000000000) (hn : n < 4000000000000000000) : ∃ v p' s', spec_l1Cur_one.f l p s n = some (v, p', s') ∧ p ≤ p' ∧ p' ≤ p + 2 := by
  unfold spec_l1Cur_one.f
  obtain ⟨v, p', s', e, h0, h1, h2, h3⟩ := pick_some l hl p s n hp0 hp1 hn
  rw [e]
  exact ⟨_, _, _, rfl, h2, h3⟩
theorem fill_aux (l : List Int) (hl : BytesL l) : ∀ (m k : Nat) (x : ByteArray) (p s : Int), 62 - x.size ≤ m → m + 2 ≤ k → 0 ≤ p → p + 2 * m ≤ 8000000000000000000 - 10 → x.size ≤ 1000000 →
    ∃ w p' s', spec_l1Cur_rolls.l1 k x l p s = some (w, p', s') ∧ w.size ≤ x.size + m ∧ p ≤ p' ∧ p' ≤ p + 2 * m + 2 := by
  intro m
  induction m with
  | zero =>
    intro k x p s hx hk hp0 hp1 hx2
    obtain ⟨k, rfl⟩ : ∃ k', k = k' + 1 := ⟨k - 1, by omega⟩
    rw [spec_l1Cur_rolls.l1]
    obtain ⟨v, p1, s1, e, h0, h1, h2, h3⟩ := pick_some l hl p s 2 hp0 (by omega) (by omega)
    rw [e]
    simp only [Option.bind_some]
    rw [wrapS _ (by omega) (by omega), if_neg (by omega)]
    exact ⟨_, _, _, rfl, by omega, by omega, by omega⟩
  | succ m ih =>
    intro k x p s hx hk hp0 hp1 hx2
    obtain ⟨k, rfl⟩ : ∃ k', k = k' + 1 := ⟨k - 1, by omega⟩
    rw [spec_l1Cur_rolls.l1]
    obtain ⟨v, p1, s1, e, h0, h1, h2, h3⟩ := pick_some l hl p s 2 hp0 (by omega) (by omega)
    rw [e]
    simp only [Option.bind_some]
    rw [wrapS _ (by omega) (by omega)]
    by_cases hlt : (x.size : Int) < 60 + v
    · have h1s : (⟨#[101]⟩ : ByteArray).size = 1 := rfl
      rw [if_pos hlt, if_pos (by omega)]
      obtain ⟨w, p', s', e2, hw, ha, hb⟩ := ih k (x ++ ⟨#[101]⟩) p1 s1 (by rw [ByteArray.size_append, h1s]; omega) (by omega) (by omega) (by omega) (by rw [ByteArray.size_append, h1s]; omega)
      rw [ByteArray.size_append, h1s] at hw
      exact ⟨w, p', s', e2, by omega, by omega, by omega⟩
    · rw [if_neg hlt]
      exact ⟨_, _, _, rfl, by omega, by omega, by omega⟩
theorem rolls_aux (l : List Int) (hl : BytesL l) : ∀ (m k : Nat) (x : ByteArray) (p s : Int), m + 90 ≤ k → m ≤ 1000 → x.size + m ≤ 1000000 → 0 ≤ p → p ≤ 6000000000000000000 - 2 * (m : Int) →
    ∃ w p' s', spec_l1Cur_rolls.l0 k x (m : Int) l p s = some (w, p', s') ∧ w.size ≤ x.size + m + 62 ∧ p ≤ p' ∧ p' ≤ p + 2 * m + 200 := by
  intro m
  induction m with
  | zero =>
    intro k x p s hk hm hx hp0 hp1
    obtain ⟨k, rfl⟩ : ∃ k', k = k' + 1 := ⟨k - 1, by omega⟩
    rw [spec_l1Cur_rolls.l0, if_neg (by omega)]
    obtain ⟨v, p1, s1, e, h0, h1, h2, h3⟩ := pick_some l hl p s 16 hp0 (by omega) (by omega)
    rw [e]
    simp only [Option.bind_some]
    by_cases hv : v = 0
    · rw [if_pos hv]
      obtain ⟨w, p', s', e2, hw, ha, hb⟩ := spoilt_some l hl x ⟨#[110, 101, 115, 119, 120, 32]⟩ (by omega) (by decide) (by decide) k (by omega) p1 s1 (by omega) (by omega)
      rw [e2]
      exact ⟨w, p', s', rfl, by omega, by omega, by omega⟩
    · rw [if_neg hv]
      by_cases hv1 : v = 1
      · rw [if_pos hv1]
        obtain ⟨w, p', s', e2, hw, ha, hb⟩ := fill_aux l hl 62 k x p1 s1 (by omega) (by omega) (by omega) (by omega) (by omega)
        exact ⟨_, _, _, e2, by omega, by omega, by omega⟩
      · rw [if_neg hv1]
        exact ⟨_, _, _, rfl, by omega, by omega, by omega⟩
  | succ m ih =>
    intro k x p s hk hm hx hp0 hp1
    obtain ⟨k, rfl⟩ : ∃ k', k = k' + 1 := ⟨k - 1, by omega⟩
    rw [spec_l1Cur_rolls.l0, if_pos (by omega)]
    obtain ⟨w, p1, s1, e, hw, h2, h3⟩ := of_some l hl p s hp0 (by omega) [(⟨#[110]⟩ : ByteArray), (⟨#[101]⟩ : ByteArray), (⟨#[115]⟩ : ByteArray), (⟨#[119]⟩ : ByteArray)] (by decide) (by decide)
    rw [e]
    simp only [Option.bind_some]
    have hs : w.size = 1 := by
      simp only [List.mem_cons, List.mem_nil_iff, or_false] at hw
      rcases hw with rfl | rfl | rfl | rfl <;> rfl
    rw [if_pos (by omega), wrap_pred m (by omega)]
    obtain ⟨w2, p', s', e2, hw2, ha, hb⟩ := ih k (x ++ w) p1 s1 (by omega) (by omega) (by rw [ByteArray.size_append]; omega) (by omega) (by omega)
    rw [ByteArray.size_append] at hw2
    exact ⟨w2, p', s', e2, by omega, by omega, by omega⟩
theorem rolls_some (l : List Int) (hl : BytesL l) (p s n : Int) (hp0 : 0 ≤ p) (hp1 : p ≤ 5000000000000000000) (hn0 : 0 ≤ n) (hn : n ≤ 900) (k : Nat) (hk : 1000 ≤ k) :
    ∃ w p' s', spec_l1Cur_rolls.f k l p s n = some (w, p', s') ∧ w.size ≤ 1000 ∧ p ≤ p' ∧ p' ≤ p + 2100 := by
  unfold spec_l1Cur_rolls.f
  rw [wrapS _ (by omega) (by omega)]
  obtain ⟨v, p1, s1, e, h0, h1, h2, h3⟩ := pick_some l hl p s (n + 1) hp0 (by omega) (by omega)
  rw [e]
  simp only [Option.bind_some]
  obtain ⟨m, rfl⟩ : ∃ m : Nat, v = (m : Int) := ⟨v.toNat, by omega⟩
  obtain ⟨w, p', s', e2, hw, ha, hb⟩ := rolls_aux l hl m k ⟨#[]⟩ p1 s1 (by omega) (by omega) (by show 0 + _ ≤ _; omega) (by omega) (by omega)
  have hz : (⟨#[]⟩ : ByteArray).size = 0 := rfl
  exact ⟨w, p', s', e2, by omega, by omega, by omega⟩
end Go.Proofs.YtgnngpkaddbhiaaDoor.P
