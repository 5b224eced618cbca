-- Packed by this work's pack.py. Not trusted: Lean checks it.
import Derived.KernelRfl
import Derived.RegionTactic
import Derived.Tactics
import Derived.Test.YtgnngpkaddbhiaaDoorProg
import Derived.Test.YtgnngpkaddbhiaaDoorK6
namespace Go.Proofs.YtgnngpkaddbhiaaDoorU
set_option linter.unusedVariables false
set_option linter.unusedSimpArgs false
def edgesB (ops : Array Oper) : Bool := (List.range ops.size).all fun j => match ops[j]? with | none => true | some o => o.after.toList.all fun e => !Region.binds .any e || decide (e.on < j)
def predsOf (o : Oper) : List Nat := (o.after.toList.filter fun e => Region.binds .any e).map (·.on)
section
variable {P : Program} {ops : Array Oper} {Q : Exit → Act → World → Prop}
theorem wpOp_of_list {i : Nat} {o : Oper} {K : Act → World → Prop} {a : Act} {w : World} (ho : ops[i]? = some o) (h : wpList P ops (Exit.then K Q) [o] a w) : wpOp P ops Q i K a w := by
  unfold wpList at h
  unfold wpOp
  rw [ho]
  show if Region.wanted o (yielded ops a.tmps) = true then _ else _
  split at h
  · rename_i hw
    rw [if_pos hw]
    rcases h with h | ⟨h1, h2⟩
    · refine .inl ?_
      unfold Oper.wp at *
      generalize (execOp a.eval o).run P w = r at *
      cases r with
      | ok n w' =>
        cases n <;> simp only [Oper.upon] at h ⊢ <;> first | exact h | (refine Calls.mono h (fun e w'' he => ?_); cases e <;> exact he) | (refine Rows.mono h (fun _ _ he => ?_); exact he)
      | halt x w' => cases x <;> simp only [Oper.upon] at h ⊢ <;> exact h
    · exact .inr ⟨h1, h2⟩
  · rename_i hw
    rw [if_neg hw]
    exact h
theorem ready_all {listed : Array Bool} (hs : listed.size = ops.size) (he : edgesB ops = true) (hr : Region.ready .any ops listed = []) : ∀ i, i < ops.size → listed.getD i false = true := by
  intro i
  induction i using Nat.strongRecOn with
  | ind i ih =>
    intro hi
    rcases hb : listed.getD i true with _ | _
    · exfalso
      have : i ∈ Region.ready .any ops listed := mem_ready.2 ⟨hb, ops[i], by simp [hi], fun e hem hbi => ?_⟩
      · rw [hr] at this; cases this
      · have h1 : e.on < i := by
          unfold edgesB at he
          have h2 := List.all_eq_true.1 he i (List.mem_range.2 hi)
          simp only [hi, Array.getElem?_eq_getElem] at h2
          have h3 := List.all_eq_true.1 h2 e (by simpa using hem)
          simpa [hbi] using h3
        exact ih _ h1 (by omega)
    · have : i < listed.size := by omega
      simp [Array.getD, this] at hb ⊢
      exact hb
theorem wpAny_inv (he : edgesB ops = true) (I : (Nat → Bool) → Act → World → Prop)
    (hstep : ∀ i o, ops[i]? = some o → ∀ d a w, I d a w → d i = false → (∀ j ∈ predsOf o, d j = true) → ∀ K', (∀ a w, I (fun j => if j = i then true else d j) a w → K' a w) → wpList P ops (Exit.then K' Q) [o] a w)
    (hend : ∀ d a w, (∀ i, i < ops.size → d i = true) → I d a w → Q .normal a w) : ∀ (fuel : Nat) (listed : Array Bool) (a : Act) (w : World), listed.size = ops.size → (listed.toList.filter (· == false)).length ≤ fuel → I (fun i => listed.getD i false) a w → wpAny P .any ops Q fuel listed a w := by
  have hall : ∀ {listed : Array Bool}, listed.size = ops.size → (listed.toList.filter (· == false)).length = 0 → ∀ i, i < ops.size → listed.getD i false = true := by
    intro listed hs h0 i hi
    have h1 := List.length_eq_zero_iff.1 h0
    have hi' : i < listed.size := by omega
    rcases hb : listed[i] with _ | _
    · have : false ∈ listed.toList.filter (· == false) := List.mem_filter.2 ⟨by rw [← hb]; simp, rfl⟩
      rw [h1] at this; cases this
    · simp [Array.getD, hi', hb]
  intro fuel
  induction fuel with
  | zero =>
    intro listed a w hs hf hI
    have ha := hall hs (by omega)
    refine ⟨?_, hend _ _ _ ha hI⟩
    rcases hr : Region.ready .any ops listed with _ | ⟨j, r⟩
    · rfl
    · exfalso
      have hj : j ∈ Region.ready .any ops listed := by rw [hr]; exact List.mem_cons_self
      obtain ⟨h1, o, h2, _⟩ := mem_ready.1 hj
      have hjs : j < ops.size := by
        rcases Nat.lt_or_ge j ops.size with h | h
        · exact h
        · rw [Array.getElem?_eq_none h] at h2; cases h2
      have h3 := ha j hjs
      have hj' : j < listed.size := by omega
      simp [Array.getD, hj'] at h1 h3
      rw [h1] at h3; cases h3
  | succ fuel ih =>
    intro listed a w hs hf hI
    refine ⟨fun hr => hend _ _ _ (ready_all hs he hr) hI, fun i hi => ?_⟩
    obtain ⟨h1, o, h2, h3⟩ := mem_ready.1 hi
    have his : i < listed.size := by
      rcases Nat.lt_or_ge i listed.size with h | h
      · exact h
      · simp [Array.getD, Nat.not_lt.2 h] at h1
    have h1' : listed[i] = false := by simpa [Array.getD, his] using h1
    refine wpOp_of_list h2 (hstep i o h2 _ _ _ hI (by simp [Array.getD, his, h1']) (fun j hj => ?_) _ (fun a w hI' => ih _ _ _ (by simp [hs]) ?_ ?_))
    · obtain ⟨e, he1, rfl⟩ := List.mem_map.1 hj
      obtain ⟨he2, he3⟩ := List.mem_filter.1 he1
      exact h3 e (by simpa using he2) he3
    · have h4 : ∀ (l : List Bool) (i : Nat), (h : i < l.length) → l[i] = false → ((l.set i true).filter (· == false)).length + 1 = (l.filter (· == false)).length := by
        intro l
        induction l with
        | nil => intro i h; simp at h
        | cons x l ih2 =>
          intro i h hx
          cases i with
          | zero => simp at hx; subst hx; simp
          | succ i =>
            simp at hx h
            have := ih2 i h hx
            cases x <;> simp [List.filter_cons] at this ⊢ <;> omega
      have h5 := h4 listed.toList i (by simpa using his) (by simpa using h1')
      simp only [Array.toList_setIfInBounds]
      omega
    · have : (fun j => if j = i then true else listed.getD j false) = fun j => (listed.setIfInBounds i true).getD j false := by
        funext j
        by_cases hji : j = i
        · subst hji; simp [Array.getD, his]
        · simp [Array.getD, hji]
          by_cases hj : j < listed.size
          · simp [hj, Array.getElem_setIfInBounds, Ne.symm hji]
          · simp [hj]
      rw [← this]; exact hI'
theorem wp_region_inv {id : Nat} {a : Act} {w : World} (hm : P.follows .mixedOrders = true) (he : edgesB ops = true) (I : (Nat → Bool) → Act → World → Prop)
    (h0 : I (fun _ => false) a w.drew)
    (hstep : ∀ i o, ops[i]? = some o → ∀ d a w, I d a w → d i = false → (∀ j ∈ predsOf o, d j = true) → (∀ j o', ops[j]? = some o' → d j = true → ∀ p ∈ predsOf o', d p = true) → ∀ K', (∀ a w, I (fun j => if j = i then true else d j) a w → K' a w) → wpList P ops (Exit.then K' Q) [o] a w)
    (hend : ∀ d a w, (∀ i, i < ops.size → d i = true) → I d a w → Q .normal a w) : (Code.region id ops true).wp P Q a w := by
  refine wp_region_any hm (wpAny_inv he (fun d a w => I d a w ∧ ∀ j o', ops[j]? = some o' → d j = true → ∀ p ∈ predsOf o', d p = true) ?_ ?_ _ _ _ _ (by simp) (by simp [List.filter_replicate]) ?_)
  · intro i o hi d a w hI hd hp K' hK
    refine hstep i o hi d a w hI.1 hd hp hI.2 K' (fun a w h => hK a w ⟨h, fun j o' hj hdj p hpp => ?_⟩)
    by_cases hpi : p = i
    · simp [hpi]
    · by_cases hji : j = i
      · subst hji
        rw [hi] at hj; injection hj with hj; subst hj
        simp [hpi, hp p hpp]
      · simp [hji] at hdj
        simp [hpi, hI.2 j o' hj hdj p hpp]
  · exact fun d a w h hI => hend d a w h hI.1
  · have : (fun i => (Array.replicate ops.size false).getD i false) = fun _ => false := by
      funext i; simp [Array.getD]
    rw [this]; exact ⟨h0, fun j _ _ h => by cases h⟩
end
end Go.Proofs.YtgnngpkaddbhiaaDoorU
