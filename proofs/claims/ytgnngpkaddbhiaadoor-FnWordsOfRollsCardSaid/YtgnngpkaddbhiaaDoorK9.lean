-- Packed by this work's pack.py. Not trusted: Lean checks it.
import Derived.BigQuiet
import Derived.Deep.QuietTactic
import Derived.DeepKeys4
import Derived.KernelRfl
import Derived.Maps.OwnOps
import Derived.Maps.OwnSet
import Derived.Maps.Views
import Derived.Test.YtgnngpkaddbhiaaDoorProg
import Derived.WideMake
import Derived.Test.YtgnngpkaddbhiaaDoorK8
namespace Go.Proofs.YtgnngpkaddbhiaaDoorU
open Go.RowKit Go.Maps
set_option linter.unusedVariables false
set_option linter.unusedSimpArgs false
theorem laidOutM : laidOutB Tryd.prog = true := by kernel_rfl
theorem keyedDie : Keyed Tryd.prog 42 := Keyed.of_law (deep_law_laid laidOutM (m := 99) (by decide) (of_decide_eq_true (by kernel_rfl)) (by kernel_rfl) (by kernel_rfl))
theorem keyDie (a0 a1 a2 a3 a4 a5 : Int) (h0 : (Lit.int .i64 a0).wf = true) (h1 : (Lit.int .i64 a1).wf = true) (h2 : (Lit.int .i64 a2).wf = true) (h3 : (Lit.int .i64 a3).wf = true) (h4 : (Lit.int .i64 a4).wf = true) (h5 : (Lit.int .i64 a5).wf = true) :
    ∃ kl, keyOf Tryd.prog 42 (.agg #[.int .i64 a0, .int .i64 a1, .int .i64 a2, .int .i64 a3, .int .i64 a4, .int .i64 a5]) = some kl := by
  have hc : Tryd.prog.cellsOf 42 = 6 := by kernel_rfl
  have hc3 : Tryd.prog.cellsOf 3 = 1 := by kernel_rfl
  refine ⟨_, (keyOf_asKey (H := Unit) (enc := fun _ => ()) (w := default) (base := 0) (sp := fun _ => false) (held := false) (by kernel_rfl) (by kernel_rfl) (by simp [Value.formed, Tryd.underlying42, hc]) (d := .agg [.lit (.int .i64 a0), .lit (.int .i64 a1), .lit (.int .i64 a2), .lit (.int .i64 a3), .lit (.int .i64 a4), .lit (.int .i64 a5)]) (ps := []) ⟨2, ?_⟩).1⟩
  simp [DataW.trod, Tryd.underlying42, Tryd.underlying3, hc, hc3, Value.cells, h0, h1, h2, h3, h4, h5]
section
variable {α : Type} {P : Program} {k e : TypeId} {encK : α → Value}
def litB : Bool → DataW Unit := fun x => .lit (.bool x)
def GM {β : Type} (w : World) (P : Program) (k e : TypeId) (encK : α → Value) (lit : β → DataW Unit) (b n : Nat) (f : α → Option β) : Prop :=
  ∃ D : DataW Unit, w.ownsMap P k (plainElem P e) b n D ∧ IsMap D ∧ ∀ a kl, keyOf P k (encK a) = some kl → (match f a with
    | none => Maps.has D kl = false
    | some v => Maps.has D kl = true ∧ ∀ z, D.atKey kl z = lit v)
theorem GM.lt {β : Type} {lit : β → DataW Unit} {w : World} {b n : Nat} {f : α → Option β} (h : GM w P k e encK lit b n f) : b < w.heap.size := by
  obtain ⟨D, hD, _⟩ := h
  exact hD.lt
theorem GM.kept {β : Type} {lit : β → DataW Unit} {w w' : World} {b n : Nat} {f : α → Option β} {row : Option Nat} (h : GM w P k e encK lit b n f) (hg : w.grownBy w' row) (hne : some b ≠ row) : GM w' P k e encK lit b n f := by
  obtain ⟨D, hD, h2⟩ := h
  exact ⟨D, hD.kept hg hne, h2⟩
theorem GM.keep {β : Type} {lit : β → DataW Unit} {w w' : World} {b n : Nat} {f : α → Option β} (h : GM w P k e encK lit b n f) (hk : w'.heap[b]? = w.heap[b]?) : GM w' P k e encK lit b n f := by
  obtain ⟨D, ⟨es, clock, hb, F, hs, hD⟩, h2⟩ := h
  exact ⟨D, ⟨es, clock, hk.trans hb, F, hs, hD⟩, h2⟩
theorem GM.below {β : Type} {lit : β → DataW Unit} {w w' : World} {b n : Nat} {f : α → Option β} (h : GM w P k e encK lit b n f) (hb : Below w.heap.size w w') : GM w' P k e encK lit b n f := h.keep (hb.block b h.lt)
theorem GM.mono {β : Type} {lit : β → DataW Unit} {w : World} {b n n' : Nat} {f : α → Option β} (h : GM w P k e encK lit b n f) (hn : n ≤ n') : GM w P k e encK lit b n' f := by
  obtain ⟨D, hD, h2⟩ := h
  exact ⟨D, hD.mono hn, h2⟩
theorem GM.made {β : Type} {lit : β → DataW Unit} (w : World) : GM (w.alloc (.map #[] 0)) P k e encK lit w.heap.size 0 (fun _ : α => (none : Option β)) :=
  ⟨.map [], World.ownsMap_made w P k _, isMap_empty, fun a kl _ => rfl⟩
theorem GM.update {β : Type} [DecidableEq α] {lit : β → DataW Unit} {w : World} {b n : Nat} {f : α → Option β} {t : TypeId} (h : GM w P k e encK lit b n f) (K : Keyed P k) (hinj : ∀ a a', encK a = encK a' → a = a') (ht : P.underlying t = some (.map k e)) (hn : n < maxLen) {a : α} {val : Value} {v : β} {kl : Lit}
    (hkey : keyOf P k (encK a) = some kl) (hv : plainElem P e val = some (lit v, [])) : ∃ w', (Instr.mapUpdate t (.map (some b)) (encK a) val).run P w = .ok () w' ∧ GM w' P k e encK lit b (n + 1) (fun x => if x = a then some v else f x) ∧ w.grownBy w' (some b) := by
  obtain ⟨D, hD, hM, hf⟩ := h
  obtain ⟨w', hrun, hD', hg⟩ := hD.update K ht hn hkey hv
  refine ⟨w', hrun, ⟨_, hD', hM.put kl _, fun x kx hx => ?_⟩, hg⟩
  by_cases hxa : x = a
  · subst hxa
    rw [hkey] at hx
    injection hx with hx
    subst hx
    simp only [↓reduceIte]
    exact ⟨has_put_same hM (K.key hkey) _, fun z => atKey_put_same hM (K.key hkey) _ z⟩
  · simp only [if_neg hxa]
    have hne : kx ≠ kl := fun e => hxa (hinj _ _ (K.inj hx (e ▸ hkey)))
    have := hf x kx hx
    cases hfx : f x with
    | none => rw [hfx] at this; show Maps.has _ _ = false; rw [has_put_other hne]; exact this
    | some u => rw [hfx] at this; exact ⟨by rw [has_put_other hne]; exact this.1, fun z => by rw [atKey_put_other hne]; exact this.2 z⟩
theorem GM.lookup_bool {w : World} {b n : Nat} {f : α → Option Bool} {t : TypeId} (h : GM w P k e encK litB b n f) (K : Keyed P k) (ht : P.underlying t = some (.map k e)) (he : P.underlying e = some .bool) (hz : (zeroValue e).run P w = .ok (.bool false) w) {a : α} {kl : Lit}
    (hkey : keyOf P k (encK a) = some kl) : (Instr.lookup t (.map (some b)) (encK a) false).run P w = .ok (.bool ((f a).getD false)) w := by
  obtain ⟨D, hD, hM, hf⟩ := h
  obtain ⟨v, ps, hrun, hv⟩ := hD.lookup K ht hz (plainElem_bool he false) hkey
  have h2 := hf a kl hkey
  have hd : D.atKey kl (litB false) = litB ((f a).getD false) := by
    cases hfa : f a with
    | none => rw [hfa] at h2; rw [atKey_of_not_has h2]; rfl
    | some u => rw [hfa] at h2; rw [h2.2]; rfl
  rw [hrun]
  have : v = .bool ((f a).getD false) := by
    have h3 : plainElem (H := Unit) P e v = some (litB ((f a).getD false), ps) := by rw [hv, ← hd]; rfl
    unfold plainElem at h3
    rw [he] at h3
    cases v <;> simp [litB] at h3
    rw [h3.1]
  rw [this]
end
theorem wpList_GM_lookup_bool {α : Type} {P : Program} (w : World) {ops : Array Oper} {rest : List Oper} {o : Oper} {a : Act} {Q : Exit → Act → World → Prop}
    (hg : o.guard = none) (m x : Operand) (t : TypeId) (hop : o.op = Op.lookup t m x false) (k e : TypeId) (K : Keyed P k) (ht : P.underlying t = some (.map k e)) (he : P.underlying e = some .bool) (hz : (zeroValue e).run P w = .ok (.bool false) w) (encK : α → Value) (b n : Nat) (f : α → Option Bool)
    (hm : a.eval m = .map (some b)) (hown : GM w P k e encK litB b n f) (y : α) (kl : Lit) (hx : a.eval x = encK y) (hkey : keyOf P k (encK y) = some kl)
    (hK : wpList P ops Q rest (a.put o.dst (.bool ((f y).getD false))) w) : wpList P ops Q (o :: rest) a w := by
  refine wpList_plain hg fun K' hK' => ?_
  have hrun := hown.lookup_bool K ht he hz hkey
  unfold Oper.wp
  simp [execOp, hop, hm, hx, hrun, Result.andThen]
  exact hK' _ _ hK
theorem wpList_GM_update {α β : Type} [DecidableEq α] {P : Program} (w : World) {ops : Array Oper} {rest : List Oper} {o : Oper} {a : Act} {Q : Exit → Act → World → Prop}
    (hg : o.guard = none) (m x y : Operand) (t : TypeId) (hop : o.op = Op.mapUpdate t m x y) (k e : TypeId) (K : Keyed P k) (ht : P.underlying t = some (.map k e)) (encK : α → Value) (hinj : ∀ a a', encK a = encK a' → a = a') (lit : β → DataW Unit) (b n : Nat) (f : α → Option β)
    (hm : a.eval m = .map (some b)) (hown : GM w P k e encK lit b n f) (hn : n < maxLen) (z : α) (kl : Lit) (hx : a.eval x = encK z) (hkey : keyOf P k (encK z) = some kl) (v : β) (val : Value) (hy : a.eval y = val) (hv : plainElem P e val = some (lit v, []))
    (hK : ∀ w', GM w' P k e encK lit b (n + 1) (fun x => if x = z then some v else f x) → w.grownBy w' (some b) → wpList P ops Q rest (a.put o.dst undef) w') : wpList P ops Q (o :: rest) a w := by
  refine wpList_plain hg fun K' hK' => ?_
  obtain ⟨w', hrun, hG, hgr⟩ := hown.update K hinj ht hn hkey hv
  unfold Oper.wp
  simp [execOp, hop, hm, hx, hy, hrun, Result.andThen]
  exact hK' _ _ (hK w' hG hgr)
theorem wpList_GM_insert {α β : Type} [DecidableEq α] {P : Program} (w : World) {ops : Array Oper} {rest : List Oper} {o : Oper} {a : Act} {Q : Exit → Act → World → Prop}
    (hg : o.guard = none) (m x y : Operand) (t : TypeId) (hop : o.op = Op.insert t m x y) (k e : TypeId) (K : Keyed P k) (ht : P.underlying t = some (.map k e)) (encK : α → Value) (hinj : ∀ a a', encK a = encK a' → a = a') (lit : β → DataW Unit) (b n : Nat) (f : α → Option β)
    (hm : a.eval m = .map (some b)) (hown : GM w P k e encK lit b n f) (hn : n < maxLen) (z : α) (kl : Lit) (hx : a.eval x = encK z) (hkey : keyOf P k (encK z) = some kl) (v : β) (val : Value) (hy : a.eval y = val) (hv : plainElem P e val = some (lit v, []))
    (hK : ∀ w', GM w' P k e encK lit b (n + 1) (fun x => if x = z then some v else f x) → w.grownBy w' (some b) → wpList P ops Q rest (a.put o.dst undef) w') : wpList P ops Q (o :: rest) a w := by
  refine wpList_plain hg fun K' hK' => ?_
  obtain ⟨w', hrun, hG, hgr⟩ := hown.update K hinj ht hn hkey hv
  unfold Oper.wp
  simp [execOp, hop, hm, hx, hy, hrun, Result.andThen]
  exact hK' _ _ (hK w' hG hgr)
theorem wpList_makeMap {P : Program} (w : World) {ops : Array Oper} {rest : List Oper} {o : Oper} {a : Act} {Q : Exit → Act → World → Prop} (hg : o.guard = none) (t : TypeId) (hop : o.op = Op.makeMap t none)
    (hK : wpList P ops Q rest (a.put o.dst (.map (some w.heap.size))) (w.alloc (.map #[] 0))) : wpList P ops Q (o :: rest) a w := by
  refine wpList_plain hg fun K' hK' => ?_
  unfold Oper.wp
  simp [execOp, hop, run_makeMap_plain, Result.andThen]
  exact hK' _ _ hK
end Go.Proofs.YtgnngpkaddbhiaaDoorU

namespace Go.Proofs.YtgnngpkaddbhiaaDoor.P
open Go.RowKit Go.Proofs.YtgnngpkaddbhiaaDoorW.PrintWords Go.Proofs.YtgnngpkaddbhiaaDoorW.PrintLast Go.Proofs.YtgnngpkaddbhiaaDoorW.PrintMore
attribute [local go_sem] max2_int min2_int max_two min_two max_three min_three max_four min_four
set_option linter.unusedVariables false
set_option linter.unusedSimpArgs false
abbrev D6 := Int × Int × Int × Int × Int × Int
def encD6 (d : D6) : Value := .agg #[.int .i64 d.1, .int .i64 d.2.1, .int .i64 d.2.2.1, .int .i64 d.2.2.2.1, .int .i64 d.2.2.2.2.1, .int .i64 d.2.2.2.2.2]
def okD6 (d : D6) : Bool := (Lit.int .i64 d.1).wf && (Lit.int .i64 d.2.1).wf && (Lit.int .i64 d.2.2.1).wf && (Lit.int .i64 d.2.2.2.1).wf && (Lit.int .i64 d.2.2.2.2.1).wf && (Lit.int .i64 d.2.2.2.2.2).wf
theorem encD6_inj (a b : D6) (h : encD6 a = encD6 b) : a = b := by
  obtain ⟨a0, a1, a2, a3, a4, a5⟩ := a
  obtain ⟨b0, b1, b2, b3, b4, b5⟩ := b
  simpa [encD6] using h
theorem keyD6 (d : D6) (h : okD6 d = true) : ∃ kl, keyOf Tryd.prog 42 (encD6 d) = some kl := by
  simp only [okD6, Bool.and_eq_true] at h
  exact Go.Proofs.YtgnngpkaddbhiaaDoorU.keyDie _ _ _ _ _ _ h.1.1.1.1.1 h.1.1.1.1.2 h.1.1.1.2 h.1.1.2 h.1.2 h.2
def setD6 (met : List D6) : D6 → Option Bool := fun d => if d ∈ met then some true else none
theorem setD6_cons (d : D6) (met : List D6) : setD6 (d :: met) = fun x => if x = d then some true else setD6 met x := by
  funext x; simp only [setD6, List.mem_cons]; by_cases h : x = d <;> simp [h]
abbrev MD (w : World) (b n : Nat) (met : List D6) : Prop := Go.Proofs.YtgnngpkaddbhiaaDoorU.GM w Tryd.prog 42 4 encD6 Go.Proofs.YtgnngpkaddbhiaaDoorU.litB b n (setD6 met)
def impl_shortWords.l1 : Nat → Nat → List ByteArray → List D6 → Int → Int → Option (List ByteArray × List D6)
  | 0, _, _, _, _, _ => none
  | k + 1, kk, out, met, at_, i => if i < 4 then (if at_ < (out.length : Int) then ((impl_Die_rolled.f kk 0 1 2 3 4 5 (rdOf ByteArray.empty out at_ ++ (⟨#[110, 101, 115, 119]⟩ : ByteArray).extract i.toNat (i + 1).toNat)).bind fun d => if okD6 d = true ∧ out.length < 100 ∧ (rdOf ByteArray.empty out at_).size ≤ 1000 then (if d ∈ met then impl_shortWords.l1 k kk out met at_ (i + 1) else impl_shortWords.l1 k kk (out ++ [rdOf ByteArray.empty out at_ ++ (⟨#[110, 101, 115, 119]⟩ : ByteArray).extract i.toNat (i + 1).toNat]) (d :: met) at_ (i + 1)) else none) else none) else some (out, met)
def impl_shortWords.l0 : Nat → Nat → List ByteArray → List D6 → Int → Option (List ByteArray)
  | 0, _, _, _, _ => none
  | k + 1, kk, out, met, at_ => if at_ < (out.length : Int) then ((impl_shortWords.l1 5 kk out met at_ 0).bind fun r => impl_shortWords.l0 k kk r.1 r.2 (at_ + 1)) else some out
def impl_shortWords.f : Option (List ByteArray) := impl_shortWords.l0 25 10 [ByteArray.empty] [(0, 1, 2, 3, 4, 5)] 0
set_option maxHeartbeats 4000000 in
set_option maxRecDepth 100000 in
theorem impl_shortWords.calls (r : List ByteArray) (w : World) (h : impl_shortWords.f = some r) :
    Calls Tryd.prog 57 #[] w fun e w' => ∃ v0_ : Value, e = .returned v0_ ∧ Kd.R Kd.string 9 w' w.heap.size (fun _ => True) v0_ r ∧ Below w.heap.size w w' := by
  have HP : Aside0 (impl_plain.f = some (0, 1, 2, 3, 4, 5)) := ⟨by simp [impl_plain.f]⟩
  have H0 := Aside0.mk h
  clear h
  go_enter Tryd.func57, Tryd.ntmps57
  go_wp2_with fail
  refine Go.Proofs.YtgnngpkaddbhiaaDoorU.wp_region_inv (by kernel_rfl) (by kernel_rfl) (fun d a w' => ∃ (u1 u2 u7 u8 u9 u10 : Value) (g : Nat), a = ⟨#[.slice none 0 0, u1, u2, undef, undef, undef, undef, u7, u8, u9, u10, undef, undef, undef, undef, undef, undef, undef, undef, undef, undef, undef, undef, undef, undef, undef, undef, undef, undef, undef, undef, undef, undef, undef, undef, undef, undef, undef, undef, undef, undef, undef, undef, undef], []⟩ ∧ Aside0 (Below w.heap.size w w') ∧ (d 0 = true → Kd.R Kd.string 9 w' w.heap.size (fun k => d 1 = true → k ≠ g) u7 [ByteArray.empty]) ∧ (d 1 = true → u8 = .map (some g) ∧ w.heap.size ≤ g ∧ MD w' g (if d 3 = true then 1 else 0) (if d 3 = true then [(0, 1, 2, 3, 4, 5)] else [])) ∧ (d 2 = true → u9 = encD6 (0, 1, 2, 3, 4, 5)) ∧ (d 4 = true → u10 = u8) ∧ (d 5 = true → u1 = u7) ∧ (d 6 = true → u2 = u10)) ?h0 ?hs ?he
  case h0 => exact ⟨undef, undef, undef, undef, undef, undef, 0, rfl, ⟨(Below.refl _ _).drew⟩, (fun h => by cases h), (fun h => by cases h), (fun h => by cases h), (fun h => by cases h), (fun h => by cases h), (fun h => by cases h)⟩
  case he =>
    intro d a w' hd hI
    obtain ⟨u1, u2, u7, u8, u9, u10, g, rfl, HB, h0, h1, h2, h4, h5, h6⟩ := hI
    have e0 := hd 0 (by decide)
    have e1 := hd 1 (by decide)
    have e3 := hd 3 (by decide)
    obtain ⟨rfl, hg, hM⟩ := h1 e1
    obtain rfl := h4 (hd 4 (by decide))
    obtain rfl := h5 (hd 5 (by decide))
    obtain rfl := h6 (hd 6 (by decide))
    rw [if_pos e3, if_pos e3] at hM
    have HM0 := Aside0.mk hM
    have HO0 := Aside0.mk (Kd.R_mono (h0 e0) (fun k hk => hk e1))
    clear h0 h1 h2 h4 h5 h6 hd e0 e1 e3 hM
    show _
    go_wp2
    go_loopg [1, 3] 25 (fun kq v1 v3 w' => ∃ (out : List ByteArray) (met : List D6) (n at_ : Nat), v3 = .int .i64 at_ ∧ Aside0 (impl_shortWords.l0 kq 10 out met at_ = some r) ∧ Aside0 (Kd.R Kd.string 9 w' w.heap.size (fun k => k ≠ g) v1 out) ∧ Aside0 (MD w' g n met) ∧ Aside0 (at_ + kq ≤ 25 ∧ n ≤ 1 + 4 * at_) ∧ Aside0 (Below w.heap.size w w'))
    case atStart => exact ⟨[ByteArray.empty], [(0, 1, 2, 3, 4, 5)], 1, 0, rfl, H0, HO0, HM0, ⟨by omega, by omega⟩, HB⟩
    case round =>
      clear H0 HO0 HM0 HB
      obtain ⟨out, met, n, at_, rfl, HA, HO, HM, HN, HB⟩ := hrel
      cases gk with
      | zero => exact absurd HA.out (by simp [impl_shortWords.l0])
      | succ k1 =>
      have H := HA.out
      clear HA
      simp only [impl_shortWords.l0] at H
      obtain ⟨A1, c1, eo1⟩ := Kd.R_slice HO.out
      subst eo1
      by_cases hlt : (at_ : Int) < (out.length : Int)
      · rw [if_pos hlt] at H
        obtain ⟨⟨out2, met2⟩, h1, h2⟩ := Option.bind_eq_some_iff.mp H
        have HI1 := Aside0.mk h1
        have HI2 := Aside0.mk h2
        clear H h1 h2
        go_wp2
        go_loopg [1, 17] 5 (fun kq v1 v17 w' => ∃ (out : List ByteArray) (met : List D6) (n i : Nat), v17 = .int .i64 i ∧ Aside0 (impl_shortWords.l1 kq 10 out met at_ i = some (out2, met2)) ∧ Aside0 (Kd.R Kd.string 9 w' w.heap.size (fun k => k ≠ g) v1 out) ∧ Aside0 (MD w' g n met) ∧ Aside0 (i + kq ≤ 5 ∧ n ≤ 1 + 4 * at_ + i) ∧ Aside0 (Below w.heap.size w w'))
        case atStart => exact ⟨out, met, n, 0, rfl, HI1, HO, HM, ⟨by omega, by have := HN.out.2; omega⟩, HB⟩
        case round =>
          clear HI1 HO HM HB
          obtain ⟨out, met, n, i, rfl, HA, HO, HM, HN1, HB⟩ := hrel
          cases gk with
          | zero => exact absurd HA.out (by simp [impl_shortWords.l1])
          | succ k2 =>
          have H := HA.out
          clear HA
          simp only [impl_shortWords.l1] at H
          by_cases hi4 : (i : Int) < 4
          · rw [if_pos hi4] at H
            by_cases hat : (at_ : Int) < (out.length : Int)
            · rw [if_pos hat] at H
              obtain ⟨d, h1, h2⟩ := Option.bind_eq_some_iff.mp H
              by_cases hok : okD6 d = true ∧ out.length < 100 ∧ (rdOf ByteArray.empty out at_).size ≤ 1000
              · rw [if_pos hok] at h2
                have e1 : ((i : Int) + 1).toNat = i + 1 := by omega
                rw [e1, Int.toNat_natCast] at h1 h2
                clear e1
                have HR := Aside0.mk h1
                have H2 := Aside0.mk h2
                have HK6 := Aside0.mk hok
                clear H h1 h2 hok
                obtain ⟨A2, c2, eo2⟩ := Kd.R_slice HO.out
                subst eo2
                obtain ⟨ad, eA, hcell⟩ := Kd.at_string (Kd.R_reads' HO.out).2.2 at_ (by omega) hat
                cases eA
                simp only [Int.toNat_natCast] at hcell
                have hsz : (i : Int) + 1 ≤ 4 := by omega
                have hi5 : (0 : Int) ≤ i := by omega
                have hi6 : (i : Int) ≤ (i : Int) + 1 := by omega
                have hi7 : (0 : Int) ≤ (i : Int) + 1 := by omega
                have hw : IntKind.i64.wrap ((i : Int) + 1) = (i : Int) + 1 := by rw [i64_w]; unfold wrap64; omega
                have hs1 := HK6.out.2.2
                have hmx : (9223372036854775807 < (rdOf ByteArray.empty out (at_ : Int)).size + ((⟨#[110, 101, 115, 119]⟩ : ByteArray).extract i (i + 1)).size) = False := eq_false (by simp only [ByteArray.size_extract]; omega)
                go_wp2_with fail
                go_quiet (fail)
                clear hw hi5 hi6 hi7 hmx hcell hs1
                have HO2 := Aside0.mk (Kd.R_drewN HO.out nq)
                have HM2 := Aside0.mk (show MD (wr.drewN nq) g n met from HM.out.keep rfl)
                have HB2 := Aside0.mk (pw_below_drewN HB.out nq)
                clear HO HM HB
                generalize wr.drewN nq = w3 at HO2 HM2 HB2 ⊢
                obtain ⟨kl, hkl⟩ := keyD6 d HK6.out.1
                have HKL := Aside0.mk hkl
                clear hkl
                have HNM := Aside0.mk (show n < maxLen by have := HN1.out; have := HN.out; simp [maxLen]; omega)
                obtain ⟨wd, hwd⟩ : ∃ wd, rdOf ByteArray.empty out (at_ : Int) ++ (⟨#[110, 101, 115, 119]⟩ : ByteArray).extract i (i + 1) = wd := ⟨_, rfl⟩
                rw [hwd] at HR H2 ⊢
                obtain ⟨b, hq⟩ : ∃ b, (setD6 met d).getD false = b := ⟨_, rfl⟩
                have HQ := Aside0.mk hq
                clear hwd hq
                show _
                go_wp2_with (first | (go_at_call 30; (with_reducible refine (impl_plain.calls _ _ _ _ _ _ _ HP.out).mono ?_); rintro e w4 ⟨rfl, hb⟩; have HO3 := Aside0.mk (Kd.R_below HO2.out hb); have HM3 := Aside0.mk (HM2.out.below hb); have HB3 := Aside0.mk (below_step HB2.out hb); clear HO2 HM2 HB2 hb) | (go_at_call 31; (with_reducible refine (impl_Die_rolled.calls _ _ _ _ _ _ _ _ _ _ _ _ _ _ _ HR.out).mono ?_); rintro e w5 ⟨rfl, hb⟩; have HO4 := Aside0.mk (Kd.R_below HO3.out hb); have HM4 := Aside0.mk (HM3.out.below hb); have HB4 := Aside0.mk (below_step HB3.out hb); clear HO3 HM3 HB3 hb) | ((with_reducible refine gate_dst (N := 34) rfl ?_); refine Go.Proofs.YtgnngpkaddbhiaaDoorU.wpList_GM_lookup_bool _ rfl (.tmp 32) (.tmp 33) 113 rfl 42 4 Go.Proofs.YtgnngpkaddbhiaaDoorU.keyedDie Tryd.underlying113 Tryd.underlying4 rfl encD6 g n (setD6 met) rfl (HM4.out.below (below_alloc (Below.refl _ _) _)) d kl rfl HKL.out ?_; rw [HQ.out]) | (at_mapUpdate; refine Go.Proofs.YtgnngpkaddbhiaaDoorU.wpList_GM_update _ rfl (.tmp 36) (.tmp 37) (.const (.bool true)) 113 rfl 42 4 Go.Proofs.YtgnngpkaddbhiaaDoorU.keyedDie Tryd.underlying113 encD6 encD6_inj Go.Proofs.YtgnngpkaddbhiaaDoorU.litB g n (setD6 met) rfl (HM4.out.below (below_alloc (Below.refl _ _) _)) HNM.out d kl rfl HKL.out true (.bool true) rfl (plainElem_bool Tryd.underlying4 true) ?_; intro w7 hM2 hgr; have HM6 := Aside0.mk hM2; have HB6 := Aside0.mk ((below_alloc HB4.out _).grown hgr (below_size (below_alloc HB4.out _)) (fun k e => (Option.some.inj e) ▸ hg)); have HO6 := Aside0.mk (Kd.R_mono (Kd.R_move (Kd.R_bound (Kd.R_alloc HO4.out _)) (fun k hk => hgr.block k hk.2.2.1 (fun e => hk.1 (Option.some.inj e)))) (fun k hk => hk.1)); clear hM2 hgr HM4 HB4 HO4) | ((with_reducible refine gate_builtin (b := .append) (xs := #[.tmp 38, .tmp 40]) rfl ?_); at_builtin; refine Kd.R_append Kd.string (w0 := w) w.heap.size rfl (.tmp 38) (.tmp 40) 46 9 (.string ⟨#[]⟩) 16 rfl Tryd.underlying46 info9 rfl (by decide) (by omega) _ out wd [.string wd] (fun k => k ≠ g) (fun _ => False) rfl rfl ?aP (fun _ hk => hk.elim) ?aF ?aO ?aB ?aS ?aL ?_; (case aP => exact rfl); (case aB => exact HB6.out); (case aF => exact fun k hk => fun e => by have := HM6.out.lt; omega); (case aO => exact HO6.out); (case aS => exact below_size HB6.out); (case aL => have := HK6.out.2.1; omega); intro v34 w8 ho hb hg hat; have HO7 := Aside0.mk ho; have HB7 := Aside0.mk hb; have HM7 := Aside0.mk (HM6.out.kept hg (fun e => HO6.out.1 g e.symm rfl)); clear ho hb hg hat HO6 HB6 HM6))
                · have hb0 : b = false := by cases b <;> simp_all
                  have hnm : ¬ d ∈ met := by
                    intro h
                    have := HQ.out
                    simp [setD6, h] at this
                    rw [hb0] at this; cases this
                  have H3 := Aside0.mk (show impl_shortWords.l1 k2 10 (out ++ [wd]) (d :: met) at_ (i + 1) = some (out2, met2) by have := H2.out; rwa [if_neg hnm] at this)
                  go_roundg k2
                  case measure => omega
                  case rel => exact ⟨out ++ [wd], d :: met, n + 1, i + 1, by go_num, H3, HO7, ⟨by rw [MD, setD6_cons]; exact HM7.out⟩, ⟨by have := HN1.out; omega, by have := HN1.out; omega⟩, HB7⟩
                · have hb0 : b = true := by cases b <;> simp_all
                  have hnm : d ∈ met := by
                    have := HQ.out
                    rw [hb0] at this
                    simp only [setD6] at this
                    split at this
                    · assumption
                    · cases this
                  have H3 := Aside0.mk (show impl_shortWords.l1 k2 10 out met at_ (i + 1) = some (out2, met2) by have := H2.out; rwa [if_pos hnm] at this)
                  go_roundg k2
                  case measure => omega
                  case rel => exact ⟨out, met, n, i + 1, by go_num, H3, ⟨Kd.R_alloc HO4.out _⟩, ⟨HM4.out.below (below_alloc (Below.refl _ _) _)⟩, ⟨by have := HN1.out; omega, by have := HN1.out; omega⟩, ⟨below_alloc HB4.out _⟩⟩
              · rw [if_neg hok] at h2
                cases h2
            · rw [if_neg hat] at H
              cases H
          · rw [if_neg hi4] at H
            injection H with H
            injection H with H1 H2
            subst H1 H2
            go_wp2
            go_roundg k1
            case measure => omega
            case rel => exact ⟨out, met, n, at_ + 1, by have h9 := HN.out.1; first | (go_num; done) | (congr 1; unfold wrap64; omega), ⟨by simpa using HI2.out⟩, HO, HM, ⟨by have := HN.out; omega, by have := HN1.out; omega⟩, HB⟩
      · rw [if_neg hlt] at H
        injection H with H
        subst H
        go_wp2
        go_ret
        exact ⟨_, rfl, Kd.R_mono HO.out (fun _ _ => trivial), HB.out⟩
  case hs =>
    intro i o hio d a w1 hI hdi hpre hcl K1 hK
    obtain ⟨u1, u2, u7, u8, u9, u10, g, rfl, HB, h0, h1, h2, h4, h5, h6⟩ := hI
    have H0' := Aside0.mk h0
    have H1' := Aside0.mk h1
    have H2' := Aside0.mk h2
    have H4' := Aside0.mk h4
    have H5' := Aside0.mk h5
    have H6' := Aside0.mk h6
    have n31 : d 3 = true → d 1 = true := fun h => hcl 3 _ rfl h 1 (by decide)
    have n41 : d 4 = true → d 3 = true := fun h => hcl 4 _ rfl h 3 (by decide)
    have n50 : d 5 = true → d 0 = true := fun h => hcl 5 _ rfl h 0 (by decide)
    have n64 : d 6 = true → d 4 = true := fun h => hcl 6 _ rfl h 4 (by decide)
    have n65 : d 6 = true → d 5 = true := fun h => hcl 6 _ rfl h 5 (by decide)
    have HN := Aside0.mk (And.intro n31 (And.intro n41 (And.intro n50 (And.intro n64 n65))))
    have HPre := Aside0.mk hpre
    have HK := Aside0.mk hK
    have HD := Aside0.mk hdi
    clear h0 h1 h2 h4 h5 h6 hpre hK hdi hcl n31 n41 n50 n64 n65
    have hi : i < 7 := by
      rcases Nat.lt_or_ge i 7 with h | h
      · exact h
      · rw [Array.getElem?_eq_none (by simpa using h)] at hio; cases hio
    obtain rfl | rfl | rfl | rfl | rfl | rfl | rfl : i = 0 ∨ i = 1 ∨ i = 2 ∨ i = 3 ∨ i = 4 ∨ i = 5 ∨ i = 6 := by omega
    all_goals (injection hio with hio; subst hio)
    · go_wp2_with ((with_reducible refine gate_dst (N := 7) rfl ?_); refine Kd.R_lit Kd.string w.heap.size 9 ?hg (N := 7) ?hd (w0 := w) (xs := [ByteArray.empty]) (inner := [.string ByteArray.empty]) (ok := fun k => d 1 = true → k ≠ g) (okp := fun _ => False) ?hr ?hp (fun _ hk => hk.elim) ?hf HB.out (below_size HB.out) (by simp) ?_; (case hd => rfl); (case hg => rfl); (case hr => first | (go_simp; done) | (go_simp; rfl)); (case hp => exact Reps.one rfl (Reps.none _ _)); (case hf => exact fun hd e => by have := (H1'.out hd).2.2.lt; omega); intro v9 w2 hout hb1 hgr1 hown1)
      refine HK.out _ _ ⟨u1, u2, v9, u8, u9, u10, g, rfl, ⟨hb1⟩, fun _ => hout, fun h => ⟨(H1'.out h).1, (H1'.out h).2.1, (H1'.out h).2.2.kept hgr1 (by simp)⟩, H2'.out, H4'.out, fun h => ?_, H6'.out⟩
      have h2 := HN.out.2.2.1 h
      rw [HD.out] at h2; cases h2
    · have hd3 : d 3 = false := by
        rcases h : d 3 with _ | _
        · rfl
        · have := HN.out.1 h; rw [HD.out] at this; cases this
      have hd4 : d 4 = false := by
        rcases h : d 4 with _ | _
        · rfl
        · have := HN.out.2.1 h; rw [hd3] at this; cases this
      have H34 := Aside0.mk (And.intro hd3 hd4)
      clear hd3 hd4
      refine Go.Proofs.YtgnngpkaddbhiaaDoorU.wpList_makeMap w1 rfl _ rfl ?_
      refine HK.out _ _ ⟨u1, u2, u7, .map (some w1.heap.size), u9, u10, w1.heap.size, rfl, ⟨below_alloc HB.out _⟩, fun h => Kd.R_mono (Kd.R_alloc (Kd.R_bound (H0'.out h)) _) (fun k hk _ => by have := hk.2; omega), fun _ => ⟨rfl, below_size HB.out, ?_⟩, H2'.out, fun h => ?_, H5'.out, H6'.out⟩
      · show MD _ _ (if d 3 = true then _ else _) (if d 3 = true then _ else _)
        rw [H34.out.1]
        exact Go.Proofs.YtgnngpkaddbhiaaDoorU.GM.made w1
      · exact absurd h (by show ¬ d 4 = true; rw [H34.out.2]; simp)
    · go_wp2_with (go_at_call 30; (with_reducible refine (impl_plain.calls _ _ _ _ _ _ _ HP.out).mono ?_); rintro e w2 ⟨rfl, hb⟩)
      exact HK.out _ _ ⟨u1, u2, u7, u8, _, u10, g, rfl, ⟨below_step HB.out hb⟩, fun h => Kd.R_below (H0'.out h) hb, fun h => ⟨(H1'.out h).1, (H1'.out h).2.1, (H1'.out h).2.2.below hb⟩, fun _ => rfl, H4'.out, H5'.out, H6'.out⟩
    · obtain ⟨rfl, hg, hM⟩ := H1'.out (HPre.out 1 (by decide))
      obtain rfl := H2'.out (HPre.out 2 (by decide))
      obtain ⟨kl, hkl⟩ := keyD6 (0, 1, 2, 3, 4, 5) (by decide)
      have hd3 : d 3 = false := HD.out
      rw [hd3] at hM
      refine Go.Proofs.YtgnngpkaddbhiaaDoorU.wpList_GM_insert w1 rfl (.tmp 8) (.tmp 9) (.const (.bool true)) 113 rfl 42 4 Go.Proofs.YtgnngpkaddbhiaaDoorU.keyedDie Tryd.underlying113 encD6 encD6_inj Go.Proofs.YtgnngpkaddbhiaaDoorU.litB g 0 (setD6 []) rfl ?_ (by decide) (0, 1, 2, 3, 4, 5) kl rfl hkl true (.bool true) rfl (plainElem_bool Tryd.underlying4 true) ?_
      · exact hM
      · intro w2 hM2 hgr
        rw [← setD6_cons] at hM2
        exact HK.out _ _ ⟨u1, u2, u7, _, _, u10, g, rfl, ⟨HB.out.grown hgr (below_size HB.out) (fun k e => by injection e with e; subst e; exact hg)⟩, fun h => Kd.R_mono (Kd.R_move (Kd.R_bound (H0'.out h)) (fun k hk => hgr.block k hk.2.2.1 (fun e => by injection e with e; exact hk.1 (HPre.out 1 (by decide)) e))) (fun k hk => hk.1), fun h => ⟨rfl, hg, hM2⟩, fun _ => rfl, H4'.out, H5'.out, H6'.out⟩
    · go_wp2
      exact HK.out _ _ ⟨u1, u2, u7, u8, u9, u8, g, rfl, HB, H0'.out, H1'.out, H2'.out, fun _ => rfl, H5'.out, fun h => absurd (HN.out.2.2.2.1 h) (by rw [HD.out]; simp)⟩
    · go_wp2
      exact HK.out _ _ ⟨u7, u2, u7, u8, u9, u10, g, rfl, HB, H0'.out, H1'.out, H2'.out, H4'.out, fun _ => rfl, H6'.out⟩
    · go_wp2
      exact HK.out _ _ ⟨u1, u10, u7, u8, u9, u10, g, rfl, HB, H0'.out, H1'.out, H2'.out, H4'.out, H5'.out, fun _ => rfl⟩
end Go.Proofs.YtgnngpkaddbhiaaDoor.P

namespace Go.Proofs.YtgnngpkaddbhiaaDoor.P
open Go.RowKit Go.Proofs.YtgnngpkaddbhiaaDoorW.PrintWords Go.Proofs.YtgnngpkaddbhiaaDoorW.PrintLast Go.Proofs.YtgnngpkaddbhiaaDoorW.PrintMore
attribute [local go_sem] max2_int min2_int max_two min_two max_three min_three max_four min_four
set_option linter.unusedVariables false
set_option linter.unusedSimpArgs false
attribute [local go_sem high] eqA42
def impl_shortest.l0 : Nat → List ByteArray → Int → Int → Int → Int → Int → Int → Int → Int → Int → Int → Int → Int → Int → Int → Option (ByteArray × Bool)
  | 0, _, _, _, _, _, _, _, _, _, _, _, _, _, _, _ => none
  | k + 1, x8, x9, x10, x102000, x102001, x102002, x102003, x102004, x102005, x103000, x103001, x103002, x103003, x103004, x103005 => if x10 < x9 then (if 0 ≤ x10 then (if x10 < (x8.length : Int) then ((impl_Die_rolled.f k x102000 x102001 x102002 x102003 x102004 x102005 (rdOf ByteArray.empty x8 x10)).bind fun bt107 => (if (bt107.1 == x103000 && (bt107.2.1 == x103001 && (bt107.2.2.1 == x103002 && (bt107.2.2.2.1 == x103003 && (bt107.2.2.2.2.1 == x103004 && (bt107.2.2.2.2.2 == x103005)))))) = true then (some (rdOf ByteArray.empty x8 x10, true)) else (impl_shortest.l0 k x8 x9 (wrap64 (x10 + 1)) x102000 x102001 x102002 x102003 x102004 x102005 x103000 x103001 x103002 x103003 x103004 x103005))) else (none)) else (none)) else (some ((⟨#[]⟩ : ByteArray), false))
def impl_shortest.f (k : Nat) (a0_0 : Int) (a0_1 : Int) (a0_2 : Int) (a0_3 : Int) (a0_4 : Int) (a0_5 : Int) (a1_0 : Int) (a1_1 : Int) (a1_2 : Int) (a1_3 : Int) (a1_4 : Int) (a1_5 : Int) : Option (ByteArray × Bool) := (impl_shortWords.f).bind fun t103 => (impl_shortest.l0 k t103 (t103.length : Int) 0 a0_0 a0_1 a0_2 a0_3 a0_4 a0_5 a1_0 a1_1 a1_2 a1_3 a1_4 a1_5)
theorem impl_shortest.mono_l : ∀ k, (∀ y0 y1 y2 y3 y4 y5 y6 y7 y8 y9 y10 y11 y12 y13 y14, LeO (impl_shortest.l0 k y0 y1 y2 y3 y4 y5 y6 y7 y8 y9 y10 y11 y12 y13 y14) (impl_shortest.l0 (k + 1) y0 y1 y2 y3 y4 y5 y6 y7 y8 y9 y10 y11 y12 y13 y14))
  | 0 => fun _ _ _ _ _ _ _ _ _ _ _ _ _ _ _ r h => by simp [impl_shortest.l0] at h
  | k + 1 => by
    have ih0 := impl_shortest.mono_l k
    · intro y0 y1 y2 y3 y4 y5 y6 y7 y8 y9 y10 y11 y12 y13 y14
      unfold impl_shortest.l0
      repeat' first
      | (with_reducible exact ih0 _ _ _ _ _ _ _ _ _ _ _ _ _ _ _)
      | (with_reducible exact impl_Die_rolled.mono _ _ _ _ _ _ _ _)
      | (with_reducible exact LeO.refl _)
      | (with_reducible exact LeO.none _)
      | (with_reducible refine LeO.ite ?_ ?_)
      | (with_reducible refine LeO.bind ?_ (fun _ => ?_))
      | exact ih0 _ _ _ _ _ _ _ _ _ _ _ _ _ _ _
      | exact impl_Die_rolled.mono _ _ _ _ _ _ _ _
      | exact LeO.none _
      | refine LeO.ite ?_ ?_
      | refine LeO.bind ?_ (fun _ => ?_)
theorem impl_shortest.mono : ∀ a0 a1 a2 a3 a4 a5 a6 a7 a8 a9 a10 a11 k, LeO (impl_shortest.f k a0 a1 a2 a3 a4 a5 a6 a7 a8 a9 a10 a11) (impl_shortest.f (k + 1) a0 a1 a2 a3 a4 a5 a6 a7 a8 a9 a10 a11) := by
  intro a0 a1 a2 a3 a4 a5 a6 a7 a8 a9 a10 a11 k
  have ih0 := impl_shortest.mono_l k
  unfold impl_shortest.f
  repeat' first
      | (with_reducible exact ih0 _ _ _ _ _ _ _ _ _ _ _ _ _ _ _)
      | (with_reducible exact impl_Die_rolled.mono _ _ _ _ _ _ _ _)
      | (with_reducible exact LeO.refl _)
      | (with_reducible exact LeO.none _)
      | (with_reducible refine LeO.ite ?_ ?_)
      | (with_reducible refine LeO.bind ?_ (fun _ => ?_))
      | exact ih0 _ _ _ _ _ _ _ _ _ _ _ _ _ _ _
      | exact impl_Die_rolled.mono _ _ _ _ _ _ _ _
      | exact LeO.none _
      | refine LeO.ite ?_ ?_
      | refine LeO.bind ?_ (fun _ => ?_)
set_option maxHeartbeats 8000000 in
set_option maxRecDepth 100000 in
theorem impl_shortest.calls (k : Nat) (a0_0 : Int) (a0_1 : Int) (a0_2 : Int) (a0_3 : Int) (a0_4 : Int) (a0_5 : Int) (a1_0 : Int) (a1_1 : Int) (a1_2 : Int) (a1_3 : Int) (a1_4 : Int) (a1_5 : Int) (r1 : ByteArray) (r2 : Bool) (w : World) (h : impl_shortest.f k a0_0 a0_1 a0_2 a0_3 a0_4 a0_5 a1_0 a1_1 a1_2 a1_3 a1_4 a1_5 = some (r1, r2)) :
    Calls Tryd.prog 29 #[.agg #[.int .i64 a0_0, .int .i64 a0_1, .int .i64 a0_2, .int .i64 a0_3, .int .i64 a0_4, .int .i64 a0_5], .agg #[.int .i64 a1_0, .int .i64 a1_1, .int .i64 a1_2, .int .i64 a1_3, .int .i64 a1_4, .int .i64 a1_5]] w fun e w' => e = .returned (.tuple #[.string r1, .bool r2]) ∧ Below w.heap.size w w' := by
  have hu42 := Tryd.underlying42
  have HB := Aside0.mk (Below.refl w.heap.size w)
  have H : ((impl_shortWords.f).bind fun t103 => (impl_shortest.l0 k t103 (t103.length : Int) 0 a0_0 a0_1 a0_2 a0_3 a0_4 a0_5 a1_0 a1_1 a1_2 a1_3 a1_4 a1_5)) = some (r1, r2) := h
  clear h
  replace H := Option.bind_eq_some_iff.mp H
  obtain ⟨t103, A30, H⟩ := H
  replace H : (impl_shortest.l0 k t103 (t103.length : Int) 0 a0_0 a0_1 a0_2 a0_3 a0_4 a0_5 a1_0 a1_1 a1_2 a1_3 a1_4 a1_5) = some (r1, r2) := H
  have A3 := Aside0.mk A30
  clear A30
  have H' := Aside0.mk H
  clear H
  go_enter Tryd.func29, Tryd.ntmps29
  go_wp2_with (first | ((with_reducible refine gate_dst (N := 2) rfl ?_); refine box_event ?hg (N := 2) ?hd (cs := #[.int .i64 a0_0, .int .i64 a0_1, .int .i64 a0_2, .int .i64 a0_3, .int .i64 a0_4, .int .i64 a0_5]) (t := 42) ?hr ?_; (case hd => rfl); (case hg => rfl); (case hr => first | (go_simp; done) | (go_simp; rfl)); intro gb101 hg w4 hbox hb; have n0_ := Aside0.mk (below_step (by repeat (first | (with_reducible first | exact HB.out | apply below_alloc | apply pw_below_drewN | apply below_drew1) | exact HB.out)) hb); have n1_ := Aside0.mk (hbox); have n2_ := Aside0.mk ((by rw [hg]; exact (below_size (by repeat (first | (with_reducible first | exact HB.out | apply below_alloc | apply pw_below_drewN | apply below_drew1) | exact HB.out))) : w.heap.size ≤ gb101)); have n3_ := Aside0.mk ((by rw [hg]; exact (below_size (by repeat (first | (with_reducible first | exact HB.out | apply below_alloc | apply pw_below_drewN | apply below_drew1) | exact HB.out))) : w.heap.size ≤ gb101)); clear HB; have HB := n0_; have BK101 := n1_; have GW101 := n2_; have GE101 := n3_; clear n0_ n1_ n2_ n3_; clear hb hbox hg) | ((with_reducible refine gate_dst (N := 3) rfl ?_); refine box_event ?hg (N := 3) ?hd (cs := #[.int .i64 a1_0, .int .i64 a1_1, .int .i64 a1_2, .int .i64 a1_3, .int .i64 a1_4, .int .i64 a1_5]) (t := 42) ?hr ?_; (case hd => rfl); (case hg => rfl); (case hr => first | (go_simp; done) | (go_simp; rfl)); intro gb102 hg w5 hbox hb; have n0_ := Aside0.mk (blk_below (g := gb101) (o := .cells #[.int .i64 a0_0, .int .i64 a0_1, .int .i64 a0_2, .int .i64 a0_3, .int .i64 a0_4, .int .i64 a0_5] 42 (0, 0)) (by (with_reducible repeat (first | refine blk_drewN ?_ _ | refine blk_drew ?_ | refine blk_alloc ?_ _)); exact BK101.out) hb); have n1_ := Aside0.mk (below_step (by repeat (first | (with_reducible first | exact HB.out | apply below_alloc | apply pw_below_drewN | apply below_drew1 | refine below_set ?_ GE101.out) | exact HB.out)) hb); have n2_ := Aside0.mk (hbox); have n3_ := Aside0.mk ((by rw [hg]; exact (below_size (by repeat (first | (with_reducible first | exact HB.out | apply below_alloc | apply pw_below_drewN | apply below_drew1 | refine below_set ?_ GE101.out) | exact HB.out))) : w.heap.size ≤ gb102)); have n4_ := Aside0.mk ((by rw [hg]; exact (below_size (by repeat (first | (with_reducible first | exact HB.out | apply below_alloc | apply pw_below_drewN | apply below_drew1 | refine below_set ?_ GE101.out) | exact HB.out))) : w.heap.size ≤ gb102)); have n5_ := Aside0.mk ((by rw [hg]; exact Nat.ne_of_lt (blk_lt (g := gb101) (o := .cells #[.int .i64 a0_0, .int .i64 a0_1, .int .i64 a0_2, .int .i64 a0_3, .int .i64 a0_4, .int .i64 a0_5] 42 (0, 0)) (by (with_reducible repeat (first | refine blk_drewN ?_ _ | refine blk_drew ?_ | refine blk_alloc ?_ _)); exact BK101.out)) : gb101 ≠ gb102)); have n6_ := Aside0.mk ((by rw [hg]; exact Nat.ne_of_gt (blk_lt (g := gb101) (o := .cells #[.int .i64 a0_0, .int .i64 a0_1, .int .i64 a0_2, .int .i64 a0_3, .int .i64 a0_4, .int .i64 a0_5] 42 (0, 0)) (by (with_reducible repeat (first | refine blk_drewN ?_ _ | refine blk_drew ?_ | refine blk_alloc ?_ _)); exact BK101.out)) : gb102 ≠ gb101)); clear BK101; clear HB; have BK101 := n0_; have HB := n1_; have BK102 := n2_; have GW102 := n3_; have GE102 := n4_; have NB101_102 := n5_; have NB102_101 := n6_; clear n0_ n1_ n2_ n3_ n4_ n5_ n6_; clear hb hbox hg) | ((with_reducible refine gate_callee (f := 57) rfl ?_); refine goesL_ (some 8) rfl rfl Tryd.func57 (by kernel_rfl) rfl #[] rfl (by (try simp only [List.map_toArray, List.map_cons, List.map_nil]); first | done | rfl | (simp only [List.length_drop, List.length_take]; rfl)) ?_; (with_reducible refine (impl_shortWords.calls  t103 _ A3.out).mono ?_); rintro e w6 ⟨v104, rfl, ho0, hb⟩; refine ⟨_, rfl, ?_⟩; have n0_ := Aside0.mk (Kd.R_lower ho0 (below_size (by repeat (first | (with_reducible first | exact HB.out | apply below_alloc | apply pw_below_drewN | apply below_drew1 | refine below_set ?_ GE101.out | refine below_set ?_ GE102.out) | exact HB.out)))); have n1_ := Aside0.mk (blk_below (g := gb101) (o := .cells #[.int .i64 a0_0, .int .i64 a0_1, .int .i64 a0_2, .int .i64 a0_3, .int .i64 a0_4, .int .i64 a0_5] 42 (0, 0)) (by (with_reducible repeat (first | refine blk_drewN ?_ _ | refine blk_drew ?_ | refine blk_alloc ?_ _)); exact BK101.out) hb); have n2_ := Aside0.mk (blk_below (g := gb102) (o := .cells #[.int .i64 a1_0, .int .i64 a1_1, .int .i64 a1_2, .int .i64 a1_3, .int .i64 a1_4, .int .i64 a1_5] 42 (0, 0)) (by (with_reducible repeat (first | refine blk_drewN ?_ _ | refine blk_drew ?_ | refine blk_alloc ?_ _)); exact BK102.out) hb); have n3_ := Aside0.mk (below_step (by repeat (first | (with_reducible first | exact HB.out | apply below_alloc | apply pw_below_drewN | apply below_drew1 | refine below_set ?_ GE101.out | refine below_set ?_ GE102.out) | exact HB.out)) hb); clear BK101; clear BK102; clear HB; have HO105 := n0_; have BK101 := n1_; have BK102 := n2_; have HB := n3_; clear n0_ n1_ n2_ n3_; (try clear hb); (try clear hb2); (try clear hk); (try clear hi); (try clear ho0); obtain ⟨Ao7, co7, eo7⟩ := Kd.R_slice HO105.out; subst eo7))
  go_loopg [10] k (fun kq v10 w' => ∃ (x10_1 : Int), v10 = .int .i64 x10_1 ∧ Aside0 (impl_shortest.l0 kq t103 (t103.length : Int) x10_1 a0_0 a0_1 a0_2 a0_3 a0_4 a0_5 a1_0 a1_1 a1_2 a1_3 a1_4 a1_5 = some (r1, r2)) ∧ Aside0 (kq ≤ k) ∧ Aside0 (Kd.R Kd.string 9 w' w.heap.size (fun _ => True) (.slice Ao7 t103.length co7) t103) ∧ Aside0 (w'.heap[gb101]? = some (.cells #[.int .i64 a0_0, .int .i64 a0_1, .int .i64 a0_2, .int .i64 a0_3, .int .i64 a0_4, .int .i64 a0_5] 42 (0, 0))) ∧ Aside0 (w'.heap[gb102]? = some (.cells #[.int .i64 a1_0, .int .i64 a1_1, .int .i64 a1_2, .int .i64 a1_3, .int .i64 a1_4, .int .i64 a1_5] 42 (0, 0))) ∧ Aside0 (Below w.heap.size w w'))
  case atStart => exact ⟨(0), (by first | rfl | (simp; done) | (simp [*]; done)), H', ⟨Nat.le_refl _⟩, ⟨by (with_reducible repeat (first | apply Kd.R_alloc | apply Kd.R_drewN | apply Kd.R_drew)); exact HO105.out⟩, ⟨by (with_reducible repeat (first | refine blk_drewN ?_ _ | refine blk_drew ?_ | refine blk_alloc ?_ _)); exact BK101.out⟩, ⟨by (with_reducible repeat (first | refine blk_drewN ?_ _ | refine blk_drew ?_ | refine blk_alloc ?_ _)); exact BK102.out⟩, ⟨by repeat (first | (with_reducible first | exact HB.out | apply below_alloc | apply pw_below_drewN | apply below_drew1 | refine below_set ?_ GE101.out | refine below_set ?_ GE102.out) | exact HB.out)⟩⟩
  case round =>
    clear H'
    try clear c2
    try clear p2
    try clear c5
    obtain ⟨x10_1, rfl, HA, HK1, HO_8, BK101, BK102, HB⟩ := hrel
    cases gk with
    | zero => exact absurd HA.out (by simp [impl_shortest.l0])
    | succ k1 =>
      have H := HA.out
      clear HA
      simp only [impl_shortest.l0] at H
      by_cases c8 : x10_1 < (t103.length : Int)
      · rw [if_pos c8] at H
        have c8b0 : decide (x10_1 < (t103.length : Int)) = true := decide_eq_true c8
        clear c8
        by_cases c9 : 0 ≤ x10_1
        · rw [if_pos c9] at H
          have c9b0 : decide (0 ≤ x10_1) = true := decide_eq_true c9
          clear c9
          by_cases c10 : x10_1 < (t103.length : Int)
          · rw [if_pos c10] at H
            have c10b0 : decide (x10_1 < (t103.length : Int)) = true := decide_eq_true c10
            clear c10
            replace H := Option.bind_eq_some_iff.mp H
            obtain ⟨⟨t107, t108, t109, t110, t111, t112⟩, A110, H⟩ := H
            replace H : (if (t107 == a1_0 && (t108 == a1_1 && (t109 == a1_2 && (t110 == a1_3 && (t111 == a1_4 && (t112 == a1_5)))))) = true then (some (rdOf ByteArray.empty t103 x10_1, true)) else (impl_shortest.l0 k1 t103 (t103.length : Int) (wrap64 (x10_1 + 1)) a0_0 a0_1 a0_2 a0_3 a0_4 a0_5 a1_0 a1_1 a1_2 a1_3 a1_4 a1_5)) = some (r1, r2) := H
            have A11 := Aside0.mk A110
            clear A110
            by_cases c12 : (t107 == a1_0 && (t108 == a1_1 && (t109 == a1_2 && (t110 == a1_3 && (t111 == a1_4 && (t112 == a1_5)))))) = true
            · rw [if_pos c12] at H
              have c12b0 : (t107 == a1_0 && (t108 == a1_1 && (t109 == a1_2 && (t110 == a1_3 && (t111 == a1_4 && (t112 == a1_5)))))) = true := c12
              (try (have c12b1 : decide (t107 = a1_0 && (t108 == a1_1 && (t109 == a1_2 && (t110 == a1_3 && (t111 == a1_4 && (t112 == a1_5)))))) = true := by simpa using c12))
              (try (have c12b2 : (t107 == a1_0 && (t108 == a1_1 && (t109 == a1_2 && (t110 == a1_3 && (t111 == a1_4 && (t112 == a1_5)))))) = true := by simpa using c12))
              clear c12
              simp only [Option.some.injEq, Prod.mk.injEq] at H
              obtain ⟨rfl, rfl⟩ := H
              have p106 : 0 ≤ (x10_1 : Int) := of_decide_eq_true (by first | (with_reducible assumption) | assumption)
              have q106 : x10_1 < (t103.length : Int) := of_decide_eq_true (by first | (with_reducible assumption) | assumption)
              obtain ⟨ad106, e106, hx106_0⟩ := Kd.at_string (Kd.R_reads' HO_8.out).2.2 x10_1 p106 q106
              cases e106
              replace p106 := eq_true p106
              replace q106 := eq_true q106
              try go_wp2
              have n0_ := Aside0.mk (Kd.R_drew HO_8.out)
              have n1_ := Aside0.mk (blk_drew BK101.out)
              have n2_ := Aside0.mk (blk_drew BK102.out)
              have n3_ := Aside0.mk (below_drew1 HB.out)
              clear HO_8
              clear BK101
              clear BK102
              clear HB
              have HO_8 := n0_
              have BK101 := n1_
              have BK102 := n2_
              have HB := n3_
              clear n0_ n1_ n2_ n3_
              refine start_ (n := 5) (S := fun w' => w'.cell? ⟨gb101, 0, none⟩ = some (.int .i64 a0_0) ∧ w'.cell? ⟨gb101, 1, none⟩ = some (.int .i64 a0_1) ∧ w'.cell? ⟨gb101, 2, none⟩ = some (.int .i64 a0_2) ∧ w'.cell? ⟨gb101, 3, none⟩ = some (.int .i64 a0_3) ∧ w'.cell? ⟨gb101, 4, none⟩ = some (.int .i64 a0_4) ∧ w'.cell? ⟨gb101, 5, none⟩ = some (.int .i64 a0_5) ∧ w'.cell? ⟨gb102, 0, none⟩ = some (.int .i64 a1_0) ∧ w'.cell? ⟨gb102, 1, none⟩ = some (.int .i64 a1_1) ∧ w'.cell? ⟨gb102, 2, none⟩ = some (.int .i64 a1_2) ∧ w'.cell? ⟨gb102, 3, none⟩ = some (.int .i64 a1_3) ∧ w'.cell? ⟨gb102, 4, none⟩ = some (.int .i64 a1_4) ∧ w'.cell? ⟨gb102, 5, none⟩ = some (.int .i64 a1_5)) (ds := []) #[false, false, false, false, false] (by kernel_rfl) rfl rfl ⟨(blk_cell BK101.out 0).trans rfl, (blk_cell BK101.out 1).trans rfl, (blk_cell BK101.out 2).trans rfl, (blk_cell BK101.out 3).trans rfl, (blk_cell BK101.out 4).trans rfl, (blk_cell BK101.out 5).trans rfl, (blk_cell BK102.out 0).trans rfl, (blk_cell BK102.out 1).trans rfl, (blk_cell BK102.out 2).trans rfl, (blk_cell BK102.out 3).trans rfl, (blk_cell BK102.out 4).trans rfl, (blk_cell BK102.out 5).trans rfl⟩ (fun hHeld => ?_)
              generalize wr.drew = w13 at HO_8 BK101 BK102 HB hHeld ⊢
              refine pure_ (i := 1) (N := some 15) (v := ?_) (a' := ?_) #[false, true, false, false, false] rfl rfl (by kernel_rfl) (fun _ _ _ h => h) (Or.inl ⟨by rfl, ?_⟩) ?_ ?_
              rotate_left
              · intro w'
                go_simp
                with_reducible rfl
              rotate_left
              · simp only [Act.put, List.setIfInBounds_toArray, List.set_cons_zero, List.set_cons_succ, i64_w, i32_w]
                rfl
              refine take_ (i := 0) (N := some 14) (v := ?_) (a' := ?_) #[true, true, false, false, false] rfl rfl (by kernel_rfl) (fun _ _ _ h => h) (Or.inl ⟨by rfl, ?_⟩) hHeld ?_ ?_
              rotate_left
              · rintro w' ⟨s0, s1, s2, s3, s4, s5, s6, s7, s8, s9, s10, s11⟩
                go_simp
                with_reducible rfl
              rotate_left
              · simp only [Act.put, List.setIfInBounds_toArray, List.set_cons_zero, List.set_cons_succ, i64_w, i32_w]
                rfl
              refine take_ (i := 3) (N := some 17) (v := ?_) (a' := ?_) #[true, true, false, true, false] rfl rfl (by kernel_rfl) (fun _ _ _ h => h) (Or.inl ⟨by rfl, ?_⟩) hHeld ?_ ?_
              rotate_left
              · rintro w' ⟨s0, s1, s2, s3, s4, s5, s6, s7, s8, s9, s10, s11⟩
                go_simp
                with_reducible rfl
              rotate_left
              · simp only [Act.put, List.setIfInBounds_toArray, List.set_cons_zero, List.set_cons_succ, i64_w, i32_w]
                rfl
              refine one_ (i := 2) (N := some 16) #[true, true, true, true, false] rfl rfl (by kernel_rfl) (by decide) (fun K hK => ?_)
              refine goes_ Tryd.func31 (by kernel_rfl) rfl #[.agg #[.int .i64 a0_0, .int .i64 a0_1, .int .i64 a0_2, .int .i64 a0_3, .int .i64 a0_4, .int .i64 a0_5], .string (rdOf ByteArray.empty t103 x10_1)] (by rfl) rfl rfl (by (try simp only [List.map_toArray, List.map_cons, List.map_nil]); first | done | rfl | (simp only [List.length_drop, List.length_take]; rfl)) ?_
              with_reducible refine (impl_Die_rolled.calls k1 a0_0 a0_1 a0_2 a0_3 a0_4 a0_5 (rdOf ByteArray.empty t103 x10_1) t107 t108 t109 t110 t111 t112 _ A11.out).mono ?_
              rintro e w14 ⟨rfl, hb⟩
              refine ⟨_, rfl, ?_⟩
              have n0_ := Aside0.mk (Kd.R_below (by (with_reducible repeat (first | apply Kd.R_alloc | apply Kd.R_drewN | apply Kd.R_drew)); exact HO_8.out) hb)
              have n1_ := Aside0.mk (blk_below (g := gb101) (o := .cells #[.int .i64 a0_0, .int .i64 a0_1, .int .i64 a0_2, .int .i64 a0_3, .int .i64 a0_4, .int .i64 a0_5] 42 (0, 0)) (by (with_reducible repeat (first | refine blk_drewN ?_ _ | refine blk_drew ?_ | refine blk_alloc ?_ _)); exact BK101.out) hb)
              have n2_ := Aside0.mk (blk_below (g := gb102) (o := .cells #[.int .i64 a1_0, .int .i64 a1_1, .int .i64 a1_2, .int .i64 a1_3, .int .i64 a1_4, .int .i64 a1_5] 42 (0, 0)) (by (with_reducible repeat (first | refine blk_drewN ?_ _ | refine blk_drew ?_ | refine blk_alloc ?_ _)); exact BK102.out) hb)
              have n3_ := Aside0.mk (below_step (by repeat (first | (with_reducible first | exact HB.out | apply below_alloc | apply pw_below_drewN | apply below_drew1 | refine below_set ?_ GE101.out | refine below_set ?_ GE102.out) | exact HB.out)) hb)
              clear HO_8
              clear BK101
              clear BK102
              clear HB
              have HO_8 := n0_
              have BK101 := n1_
              have BK102 := n2_
              have HB := n3_
              clear n0_ n1_ n2_ n3_
              (try clear hb)
              (try clear hb2)
              (try clear hk)
              (try clear hi)
              refine hK.out _ _ ⟨(blk_cell BK101.out 0).trans rfl, (blk_cell BK101.out 1).trans rfl, (blk_cell BK101.out 2).trans rfl, (blk_cell BK101.out 3).trans rfl, (blk_cell BK101.out 4).trans rfl, (blk_cell BK101.out 5).trans rfl, (blk_cell BK102.out 0).trans rfl, (blk_cell BK102.out 1).trans rfl, (blk_cell BK102.out 2).trans rfl, (blk_cell BK102.out 3).trans rfl, (blk_cell BK102.out 4).trans rfl, (blk_cell BK102.out 5).trans rfl⟩ (fun hHeld => ?_)
              clear hK K
              refine norm_ (a' := ?_) ?_ ?_
              rotate_left
              · show Act.put _ (some 16) _ = _
                simp only [Act.put, List.setIfInBounds_toArray, List.set_cons_zero, List.set_cons_succ, i64_w, i32_w]
                rfl
              refine pure_ (i := 4) (N := some 18) (v := ?_) (a' := ?_) #[true, true, true, true, true] rfl rfl (by kernel_rfl) (fun _ _ _ h => h) (Or.inl ⟨by rfl, ?_⟩) ?_ ?_
              rotate_left
              · intro w'
                go_simp
                with_reducible rfl
              rotate_left
              · simp only [Act.put, List.setIfInBounds_toArray, List.set_cons_zero, List.set_cons_succ, i64_w, i32_w]
                rfl
              refine done_ (by kernel_rfl) ?_
              try go_wp2
              go_ret2
              exact ⟨by first | rfl | (simp [errW_none, errW_some] <;> rfl) | (simp [*, errW_none, errW_some] <;> rfl), by repeat (first | (with_reducible first | exact HB.out | apply below_alloc | apply pw_below_drewN | apply below_drew1 | refine below_set ?_ GE101.out | refine below_set ?_ GE102.out) | exact HB.out)⟩
            · rw [if_neg c12] at H
              have c12b0 : (t107 == a1_0 && (t108 == a1_1 && (t109 == a1_2 && (t110 == a1_3 && (t111 == a1_4 && (t112 == a1_5)))))) = false := by simpa using c12
              (try (have c12b1 : decide (t107 = a1_0 && (t108 == a1_1 && (t109 == a1_2 && (t110 == a1_3 && (t111 == a1_4 && (t112 == a1_5)))))) = false := by simpa using c12))
              (try (have c12b2 : (t107 == a1_0 && (t108 == a1_1 && (t109 == a1_2 && (t110 == a1_3 && (t111 == a1_4 && (t112 == a1_5)))))) = false := by simpa using c12))
              (try (have c12b3 : ¬ (t107 = a1_0 && (t108 == a1_1 && (t109 == a1_2 && (t110 == a1_3 && (t111 == a1_4 && (t112 == a1_5)))))) := by simpa using c12))
              clear c12
              have H' := Aside0.mk H
              clear H
              have p106 : 0 ≤ (x10_1 : Int) := of_decide_eq_true (by first | (with_reducible assumption) | assumption)
              have q106 : x10_1 < (t103.length : Int) := of_decide_eq_true (by first | (with_reducible assumption) | assumption)
              obtain ⟨ad106, e106, hx106_0⟩ := Kd.at_string (Kd.R_reads' HO_8.out).2.2 x10_1 p106 q106
              cases e106
              replace p106 := eq_true p106
              replace q106 := eq_true q106
              try go_wp2
              have n0_ := Aside0.mk (Kd.R_drew HO_8.out)
              have n1_ := Aside0.mk (blk_drew BK101.out)
              have n2_ := Aside0.mk (blk_drew BK102.out)
              have n3_ := Aside0.mk (below_drew1 HB.out)
              clear HO_8
              clear BK101
              clear BK102
              clear HB
              have HO_8 := n0_
              have BK101 := n1_
              have BK102 := n2_
              have HB := n3_
              clear n0_ n1_ n2_ n3_
              refine start_ (n := 5) (S := fun w' => w'.cell? ⟨gb101, 0, none⟩ = some (.int .i64 a0_0) ∧ w'.cell? ⟨gb101, 1, none⟩ = some (.int .i64 a0_1) ∧ w'.cell? ⟨gb101, 2, none⟩ = some (.int .i64 a0_2) ∧ w'.cell? ⟨gb101, 3, none⟩ = some (.int .i64 a0_3) ∧ w'.cell? ⟨gb101, 4, none⟩ = some (.int .i64 a0_4) ∧ w'.cell? ⟨gb101, 5, none⟩ = some (.int .i64 a0_5) ∧ w'.cell? ⟨gb102, 0, none⟩ = some (.int .i64 a1_0) ∧ w'.cell? ⟨gb102, 1, none⟩ = some (.int .i64 a1_1) ∧ w'.cell? ⟨gb102, 2, none⟩ = some (.int .i64 a1_2) ∧ w'.cell? ⟨gb102, 3, none⟩ = some (.int .i64 a1_3) ∧ w'.cell? ⟨gb102, 4, none⟩ = some (.int .i64 a1_4) ∧ w'.cell? ⟨gb102, 5, none⟩ = some (.int .i64 a1_5)) (ds := []) #[false, false, false, false, false] (by kernel_rfl) rfl rfl ⟨(blk_cell BK101.out 0).trans rfl, (blk_cell BK101.out 1).trans rfl, (blk_cell BK101.out 2).trans rfl, (blk_cell BK101.out 3).trans rfl, (blk_cell BK101.out 4).trans rfl, (blk_cell BK101.out 5).trans rfl, (blk_cell BK102.out 0).trans rfl, (blk_cell BK102.out 1).trans rfl, (blk_cell BK102.out 2).trans rfl, (blk_cell BK102.out 3).trans rfl, (blk_cell BK102.out 4).trans rfl, (blk_cell BK102.out 5).trans rfl⟩ (fun hHeld => ?_)
              generalize wr.drew = w15 at HO_8 BK101 BK102 HB hHeld ⊢
              refine pure_ (i := 1) (N := some 15) (v := ?_) (a' := ?_) #[false, true, false, false, false] rfl rfl (by kernel_rfl) (fun _ _ _ h => h) (Or.inl ⟨by rfl, ?_⟩) ?_ ?_
              rotate_left
              · intro w'
                go_simp
                with_reducible rfl
              rotate_left
              · simp only [Act.put, List.setIfInBounds_toArray, List.set_cons_zero, List.set_cons_succ, i64_w, i32_w]
                rfl
              refine take_ (i := 0) (N := some 14) (v := ?_) (a' := ?_) #[true, true, false, false, false] rfl rfl (by kernel_rfl) (fun _ _ _ h => h) (Or.inl ⟨by rfl, ?_⟩) hHeld ?_ ?_
              rotate_left
              · rintro w' ⟨s0, s1, s2, s3, s4, s5, s6, s7, s8, s9, s10, s11⟩
                go_simp
                with_reducible rfl
              rotate_left
              · simp only [Act.put, List.setIfInBounds_toArray, List.set_cons_zero, List.set_cons_succ, i64_w, i32_w]
                rfl
              refine take_ (i := 3) (N := some 17) (v := ?_) (a' := ?_) #[true, true, false, true, false] rfl rfl (by kernel_rfl) (fun _ _ _ h => h) (Or.inl ⟨by rfl, ?_⟩) hHeld ?_ ?_
              rotate_left
              · rintro w' ⟨s0, s1, s2, s3, s4, s5, s6, s7, s8, s9, s10, s11⟩
                go_simp
                with_reducible rfl
              rotate_left
              · simp only [Act.put, List.setIfInBounds_toArray, List.set_cons_zero, List.set_cons_succ, i64_w, i32_w]
                rfl
              refine one_ (i := 2) (N := some 16) #[true, true, true, true, false] rfl rfl (by kernel_rfl) (by decide) (fun K hK => ?_)
              refine goes_ Tryd.func31 (by kernel_rfl) rfl #[.agg #[.int .i64 a0_0, .int .i64 a0_1, .int .i64 a0_2, .int .i64 a0_3, .int .i64 a0_4, .int .i64 a0_5], .string (rdOf ByteArray.empty t103 x10_1)] (by rfl) rfl rfl (by (try simp only [List.map_toArray, List.map_cons, List.map_nil]); first | done | rfl | (simp only [List.length_drop, List.length_take]; rfl)) ?_
              with_reducible refine (impl_Die_rolled.calls k1 a0_0 a0_1 a0_2 a0_3 a0_4 a0_5 (rdOf ByteArray.empty t103 x10_1) t107 t108 t109 t110 t111 t112 _ A11.out).mono ?_
              rintro e w16 ⟨rfl, hb⟩
              refine ⟨_, rfl, ?_⟩
              have n0_ := Aside0.mk (Kd.R_below (by (with_reducible repeat (first | apply Kd.R_alloc | apply Kd.R_drewN | apply Kd.R_drew)); exact HO_8.out) hb)
              have n1_ := Aside0.mk (blk_below (g := gb101) (o := .cells #[.int .i64 a0_0, .int .i64 a0_1, .int .i64 a0_2, .int .i64 a0_3, .int .i64 a0_4, .int .i64 a0_5] 42 (0, 0)) (by (with_reducible repeat (first | refine blk_drewN ?_ _ | refine blk_drew ?_ | refine blk_alloc ?_ _)); exact BK101.out) hb)
              have n2_ := Aside0.mk (blk_below (g := gb102) (o := .cells #[.int .i64 a1_0, .int .i64 a1_1, .int .i64 a1_2, .int .i64 a1_3, .int .i64 a1_4, .int .i64 a1_5] 42 (0, 0)) (by (with_reducible repeat (first | refine blk_drewN ?_ _ | refine blk_drew ?_ | refine blk_alloc ?_ _)); exact BK102.out) hb)
              have n3_ := Aside0.mk (below_step (by repeat (first | (with_reducible first | exact HB.out | apply below_alloc | apply pw_below_drewN | apply below_drew1 | refine below_set ?_ GE101.out | refine below_set ?_ GE102.out) | exact HB.out)) hb)
              clear HO_8
              clear BK101
              clear BK102
              clear HB
              have HO_8 := n0_
              have BK101 := n1_
              have BK102 := n2_
              have HB := n3_
              clear n0_ n1_ n2_ n3_
              (try clear hb)
              (try clear hb2)
              (try clear hk)
              (try clear hi)
              refine hK.out _ _ ⟨(blk_cell BK101.out 0).trans rfl, (blk_cell BK101.out 1).trans rfl, (blk_cell BK101.out 2).trans rfl, (blk_cell BK101.out 3).trans rfl, (blk_cell BK101.out 4).trans rfl, (blk_cell BK101.out 5).trans rfl, (blk_cell BK102.out 0).trans rfl, (blk_cell BK102.out 1).trans rfl, (blk_cell BK102.out 2).trans rfl, (blk_cell BK102.out 3).trans rfl, (blk_cell BK102.out 4).trans rfl, (blk_cell BK102.out 5).trans rfl⟩ (fun hHeld => ?_)
              clear hK K
              refine norm_ (a' := ?_) ?_ ?_
              rotate_left
              · show Act.put _ (some 16) _ = _
                simp only [Act.put, List.setIfInBounds_toArray, List.set_cons_zero, List.set_cons_succ, i64_w, i32_w]
                rfl
              refine pure_ (i := 4) (N := some 18) (v := ?_) (a' := ?_) #[true, true, true, true, true] rfl rfl (by kernel_rfl) (fun _ _ _ h => h) (Or.inl ⟨by rfl, ?_⟩) ?_ ?_
              rotate_left
              · intro w'
                go_simp
                with_reducible rfl
              rotate_left
              · simp only [Act.put, List.setIfInBounds_toArray, List.set_cons_zero, List.set_cons_succ, i64_w, i32_w]
                rfl
              refine done_ (by kernel_rfl) ?_
              try go_wp2
              go_roundg k1
              case measure => have := HK1.out; omega
              case rel => exact ⟨(wrap64 (x10_1 + 1)), (by first | rfl | (simp; done) | (simp [*]; done)), H', ⟨by have := HK1.out; omega⟩, ⟨by (with_reducible repeat (first | apply Kd.R_alloc | apply Kd.R_drewN | apply Kd.R_drew)); exact HO_8.out⟩, ⟨by (with_reducible repeat (first | refine blk_drewN ?_ _ | refine blk_drew ?_ | refine blk_alloc ?_ _)); exact BK101.out⟩, ⟨by (with_reducible repeat (first | refine blk_drewN ?_ _ | refine blk_drew ?_ | refine blk_alloc ?_ _)); exact BK102.out⟩, ⟨by repeat (first | (with_reducible first | exact HB.out | apply below_alloc | apply pw_below_drewN | apply below_drew1 | refine below_set ?_ GE101.out | refine below_set ?_ GE102.out) | exact HB.out)⟩⟩
          · rw [if_neg c10] at H
            exact absurd H (by simp)
        · rw [if_neg c9] at H
          exact absurd H (by simp)
      · rw [if_neg c8] at H
        have c8b0 : decide (x10_1 < (t103.length : Int)) = false := decide_eq_false c8
        clear c8
        simp only [Option.some.injEq, Prod.mk.injEq] at H
        obtain ⟨rfl, rfl⟩ := H
        go_wp2
        go_ret2
        exact ⟨by first | rfl | (simp [errW_none, errW_some] <;> rfl) | (simp [*, errW_none, errW_some] <;> rfl), by repeat (first | (with_reducible first | exact HB.out | apply below_alloc | apply pw_below_drewN | apply below_drew1 | refine below_set ?_ GE101.out | refine below_set ?_ GE102.out) | exact HB.out)⟩
end Go.Proofs.YtgnngpkaddbhiaaDoor.P
