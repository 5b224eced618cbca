-- Packed by this work's pack.py. Not trusted: Lean checks it.
import Derived.Laws.StructEq
import Derived.Lib.ConvBytes
import Derived.Test.YtgnngpkaddbhiaaDoorK2
namespace Go.Proofs.YtgnngpkaddbhiaaDoorW.PrintWords
open Go.RowKit
section
variable {P : Program} {d : Nat} {xs ys : Array Value} {f : Field} {fs : List Field} {a b : Value} {r s : Bool} {w : World}
theorem eqf_last (hn : (f.name == "_") = false) (ha : (part f.type xs f.offset).run P w = .ok a w) (hb : (part f.type ys f.offset).run P w = .ok b w) (he : (Op.equalIn d f.type a b).run P w = .ok r w) : (Op.eqFields d xs ys [f]).run P w = .ok r w := by
  have hn' : f.name ≠ "_" := by simpa using hn
  simp only [Op.eqFields, if_pos hn', Sem.run_bind, ha, hb, he, Result.andThen_ok]
  cases r <;> simp
theorem eqf_cons (hn : (f.name == "_") = false) (ha : (part f.type xs f.offset).run P w = .ok a w) (hb : (part f.type ys f.offset).run P w = .ok b w) (he : (Op.equalIn d f.type a b).run P w = .ok r w) (hr : (Op.eqFields d xs ys fs).run P w = .ok s w) : (Op.eqFields d xs ys (f :: fs)).run P w = .ok (r && s) w := by
  have hn' : f.name ≠ "_" := by simpa using hn
  rw [Op.eqFields]
  simp only [if_pos hn', Sem.run_bind, ha, hb, he, Result.andThen_ok]
  cases r
  · simp
  · simpa using hr
theorem eqA_of {t : TypeId} {fs : Array Field} (hu : P.underlying t = some (.struct fs)) (hp : P.stoodInHeld t = false) (h : (Op.eqFields d xs ys fs.toList).run P w = .ok r w) : (Op.equalIn (d + 1) t (.agg xs) (.agg ys)).run P w = .ok r w := by
  have hf : P.fieldsOf t = fs := by simp [Program.fieldsOf, hu]
  rw [run_equalIn_struct (P := P) w d t xs ys (by rw [hf]; exact hu) hp, hf]
  exact h
end
end Go.Proofs.YtgnngpkaddbhiaaDoorW.PrintWords

namespace Go.Proofs.YtgnngpkaddbhiaaDoorU
open Go.RowKit Go.Proofs.YtgnngpkaddbhiaaDoorW.PrintWords
set_option linter.unusedVariables false
def Arr (w : World) (g T : Nat) (cs : List Value) : Prop := w.heap[g]? = some (.cells cs.toArray T (0, 0))
theorem Arr.lt {w : World} {g T : Nat} {cs : List Value} (h : Arr w g T cs) : g < w.heap.size := (Array.getElem?_eq_some_iff.1 h).1
theorem Arr.keep {w w1 : World} {g T : Nat} {cs : List Value} (h : Arr w g T cs) (hk : w1.heap[g]? = w.heap[g]?) : Arr w1 g T cs := hk.trans h
theorem Arr.below {w w1 : World} {g T : Nat} {cs : List Value} (h : Arr w g T cs) (hb : Below w.heap.size w w1) : Arr w1 g T cs := h.keep (hb.block g h.lt)
theorem Arr.grown {w w1 : World} {g T : Nat} {cs : List Value} {row : Option Nat} (h : Arr w g T cs) (hg : w.grownBy w1 row) (hne : some g ≠ row) : Arr w1 g T cs := h.keep (hg.block g h.lt hne)
theorem Arr.cell {w : World} {g T : Nat} {cs : List Value} (h : Arr w g T cs) (i : Nat) (v : Value) (hv : cs[i]? = some v) : w.cell? ⟨g, i, none⟩ = some v := by
  unfold Arr at h
  simp [World.cell?, h, hv]
theorem Arr.free {w : World} {g T : Nat} {cs : List Value} (h : Arr w g T cs) (i : Nat) : w.frozen? ⟨g, i, none⟩ = false := by
  unfold Arr at h
  simp [World.frozen?, h]
theorem Arr.set {w : World} {g T : Nat} {cs : List Value} (h : Arr w g T cs) (i : Nat) (v : Value) : Arr (w.setCell ⟨g, i, none⟩ v) g T (cs.set i v) := by
  have hlt := h.lt
  unfold Arr at h ⊢
  rw [Array.getElem?_eq_getElem hlt] at h
  injection h with h
  show (w.heap.modify g _)[g]? = _
  rw [Array.getElem?_modify, if_pos rfl, Array.getElem?_eq_getElem hlt, h]
  simp
theorem Arr.new (w : World) (T : Nat) (cs : Array Value) : Arr (w.alloc (.cells cs T)) w.heap.size T cs.toList := by
  unfold Arr
  simpa using heap_alloc_new w (.cells cs T (0, 0))
theorem block_of_R {k : IntKind} {w : World} {base e : Nat} {ok : Nat → Prop} {v : Value} {xs : List Int} (h : Kd.R (Kd.int k) e w base ok v xs) (hne : xs ≠ []) :
    ∃ g c cur, v = .slice (some ⟨g, 0, none⟩) xs.length c ∧ base ≤ g ∧ ok g ∧ xs.length ≤ c ∧ w.heap[g]? = some (.cells cur e (0, 0)) ∧ cur.toList.take xs.length = nums k xs := by
  have hok := h.1
  have hown := Kd.own_of_R h
  rcases hown.2 with ⟨_, h0⟩ | ⟨g, cap, cur, rfl, hbase, hb, h1, h2, h3, h4⟩
  · exact absurd (List.eq_nil_of_length_eq_zero h0) hne
  · exact ⟨g, cap, cur, rfl, hbase, hok g rfl, h1, hb, by simpa [encs, nums] using h4⟩
theorem cell_of_nums {k : IntKind} {w : World} {g e : Nat} {cur : Array Value} {fr : Nat × Nat} {xs : List Int} (hb : w.heap[g]? = some (.cells cur e fr)) (ht : cur.toList.take xs.length = nums k xs) (i : Nat) (hi : i < xs.length) : w.cell? ⟨g, i, none⟩ = some (.int k (xs.getD i 0)) := by
  have h1 : (cur.toList.take xs.length)[i]? = (nums k xs)[i]? := by rw [ht]
  rw [List.getElem?_take_of_lt hi] at h1
  simp [nums, hi] at h1
  simp [World.cell?, hb, h1, hi]
end Go.Proofs.YtgnngpkaddbhiaaDoorU

namespace Go.Proofs.YtgnngpkaddbhiaaDoorU
def idxBy {α : Type} (p : α → Bool) (l : List α) : Int := match l.findIdx? p with | some i => (i : Int) | none => -1
theorem idxBy_none {α : Type} {p : α → Bool} {l : List α} (h : ∀ x ∈ l, p x = false) : idxBy p l = -1 := by
  unfold idxBy
  have : l.findIdx? p = none := by
    rw [List.findIdx?_eq_none_iff]; exact h
  rw [this]
theorem idxBy_some {α : Type} {p : α → Bool} {l : List α} (d : α) (i : Nat) (hi : i < l.length) (h : p (l.getD i d) = true) (h0 : ∀ j, j < i → p (l.getD j d) = false) : idxBy p l = i := by
  unfold idxBy
  have : l.findIdx? p = some i := by
    rw [List.findIdx?_eq_some_iff_getElem]
    refine ⟨hi, by simpa [List.getD, hi] using h, fun j hj => ?_⟩
    have := h0 j hj
    have hj' : j < l.length := by omega
    simpa [List.getD, hj'] using this
  rw [this]
theorem all_getD {α : Type} {P : α → Prop} {l : List α} (d : α) (h : ∀ j, j < l.length → P (l.getD j d)) : ∀ x ∈ l, P x := by
  intro x hx
  obtain ⟨j, hj, rfl⟩ := List.mem_iff_getElem.1 hx
  have := h j hj
  simpa [List.getD, hj] using this
theorem idxBy_nonneg {α : Type} (p : α → Bool) (l : List α) : decide (0 ≤ idxBy p l) = l.any p := by
  unfold idxBy
  cases h : l.findIdx? p with
  | none =>
    rw [List.findIdx?_eq_none_iff] at h
    have : l.any p = false := by
      rw [List.any_eq_false]
      intro x hx
      simpa using h x hx
    simp [this]
  | some i =>
    rw [List.findIdx?_eq_some_iff_getElem] at h
    obtain ⟨hi, hp, _⟩ := h
    have : l.any p = true := by
      rw [List.any_eq_true]
      exact ⟨l[i], List.getElem_mem _, hp⟩
    simp [this]
end Go.Proofs.YtgnngpkaddbhiaaDoorU

namespace Go.Proofs.YtgnngpkaddbhiaaDoorU
open Go.RowKit Go.Proofs.YtgnngpkaddbhiaaDoorW.PrintWords Go.Proofs.YtgnngpkaddbhiaaDoorW.PrintLast Go.Proofs.YtgnngpkaddbhiaaDoorW.PrintMore
set_option linter.unusedVariables false
set_option linter.unusedSimpArgs false
structure MB (w : World) (g : Nat) (e : TypeId) (xs : List Int) : Prop where
  mk :: (out : ∃ cs : Array Value, w.heap[g]? = some (.cells cs e (cs.size, cs.size + 1)) ∧ xs.length ≤ cs.size ∧ cs.toList.take xs.length = nums .u8 xs ∧ xs.length ≤ 9223372036854775807)
theorem MB.lt {w : World} {g : Nat} {e : TypeId} {xs : List Int} (h : MB w g e xs) : g < w.heap.size := by
  obtain ⟨cs, hg, _, _, _⟩ := h.out
  rcases Nat.lt_or_ge g w.heap.size with h' | h'
  · exact h'
  · rw [Array.getElem?_eq_none h'] at hg; cases hg
theorem MB.keep {w w1 : World} {g : Nat} {e : TypeId} {xs : List Int} (h : MB w g e xs) (hk : w1.heap[g]? = w.heap[g]?) : MB w1 g e xs := by
  obtain ⟨cs, hg, hl, ht, hm⟩ := h.out
  exact ⟨cs, hk.trans hg, hl, ht, hm⟩
theorem MB.below {w w1 : World} {g : Nat} {e : TypeId} {xs : List Int} (h : MB w g e xs) (hb : Below w.heap.size w w1) : MB w1 g e xs := h.keep (hb.block g h.lt)
theorem MB.get {cs : Array Value} {xs : List Int} (ht : cs.toList.take xs.length = nums .u8 xs) (i : Nat) (hi : i < xs.length) : cs[i]? = some (.int .u8 (xs.getD i 0)) := by
  have h1 : (cs.toList.take xs.length)[i]? = (nums .u8 xs)[i]? := by rw [ht]
  rw [List.getElem?_take_of_lt hi] at h1
  simp [nums, hi] at h1
  simp [List.getD, hi]
  exact h1
theorem MB.cell {w : World} {g : Nat} {e : TypeId} {xs : List Int} (h : MB w g e xs) (i : Nat) (hi : i < xs.length) : w.cell? ⟨g, i, none⟩ = some (.int .u8 (xs.getD i 0)) := by
  obtain ⟨cs, hg, hl, ht, hm⟩ := h.out
  simp [World.cell?, hg, MB.get ht i hi]
theorem MB.free {w : World} {g : Nat} {e : TypeId} {xs : List Int} (h : MB w g e xs) (i : Nat) (hi : i < xs.length) : w.frozen? ⟨g, i, none⟩ = false := by
  obtain ⟨cs, hg, hl, ht, hm⟩ := h.out
  simp [World.frozen?, hg]
  omega
theorem MB.set {w : World} {g : Nat} {e : TypeId} {xs : List Int} (h : MB w g e xs) (i : Nat) (hi : i < xs.length) (v : Int) : MB (w.setCell ⟨g, i, none⟩ (.int .u8 v)) g e (xs.set i v) := by
  obtain ⟨cs, hg, hl, ht, hm⟩ := h.out
  have hlt := h.lt
  refine ⟨cs.setIfInBounds i (.int .u8 v), ?_, by simpa using hl, ?_, by simpa using hm⟩
  · rw [Array.getElem?_eq_getElem hlt] at hg
    injection hg with hg
    show (w.heap.modify g _)[g]? = _
    rw [Array.getElem?_modify, if_pos rfl, Array.getElem?_eq_getElem hlt, hg]
    simp
  · simp only [List.length_set, Array.toList_setIfInBounds, nums, List.map_set]
    rw [← nums, ← ht, List.take_set]
theorem MB.C {w : World} {g : Nat} {e : TypeId} {xs : List Int} (h : MB w g e xs) : Kd.C (Kd.int .u8) w (some ⟨g, 0, none⟩) xs.length xs := by
  refine Kd.C_of_reads (d := (0 : Int)) (h1 := fun _ => rfl) ⟨rfl, (by obtain ⟨_, _, _, _, hm⟩ := h.out; exact hm), fun _ => ⟨_, rfl, fun j hj => ?_⟩⟩
  rw [add_plain]
  exact h.cell j hj
theorem bytes_event {P : Program} {ops : Array Oper} {o : Oper} {rest : List Oper} {a : Act} {Q : Exit → Act → World → Prop} {W : World} (hgd : o.guard = none) {N : Tmp} (_hd : o.dst = some N)
    {s t e : TypeId} {us : TypeDesc} {x : Operand} (ho : o.op = .convert s t x) {b : ByteArray} (hx : a.eval x = .string b) (hs : P.underlying s = some us) (ht : P.underlying t = some (.slice e)) (he : P.underlying e = some (.int .u8))
    (hb : b.size ≤ 9223372036854775807)
    (h : ∀ g, g = W.heap.size → ∀ w1 cap, MB w1 g e (bytesOf b) → Below W.heap.size W w1 → b.size ≤ cap → wpList P ops Q rest (a.put o.dst (.slice (some ⟨g, 0, none⟩) b.size cap)) w1) : wpList P ops Q (o :: rest) a W := by
  have hr := Lib.run_convert_string_bytes (P := P) W s t e b hs ht he
  have hlen : (bytesOf b).length = b.size := by simp [bytesOf]
  refine Kd.event_run hgd (w1 := Lib.bytesWorld W e b) (v := .slice (some ⟨W.heap.size, 0, none⟩) b.size (grownCap W b.size 0 e)) ?_ (h _ rfl _ _ ⟨Lib.bytesCells W e b, Lib.bytesWorld_at_new W e b, ?_, ?_, ?_⟩ ⟨rfl, rfl, rfl, ?_, ?_⟩ ?_)
  · simp [execOp, ho, hx, hr]
  · rw [hlen]; simp [Lib.bytesCells]
  · rw [hlen]; simp [Lib.bytesCells, nums, bytesOf]
  · rw [hlen]; exact hb
  · rw [Lib.bytesWorld_size]; omega
  · intro k hk; exact Lib.bytesWorld_at_old W e b k hk
  · exact grownCap_ge W b.size 0 e
end Go.Proofs.YtgnngpkaddbhiaaDoorU

namespace Go.Proofs.YtgnngpkaddbhiaaDoorU
open Go.RowKit Go.Proofs.YtgnngpkaddbhiaaDoorW.PrintWords Go.Proofs.YtgnngpkaddbhiaaDoorW.PrintLast Go.Proofs.YtgnngpkaddbhiaaDoorW.PrintMore
set_option linter.unusedVariables false
set_option linter.unusedSimpArgs false
theorem wrapS (x : Int) (h0 : -9223372036854775808 ≤ x) (h1 : x < 9223372036854775808) : wrap64 x = x := by unfold wrap64; omega
theorem wrap_succ (j : Nat) (h : j < 9223372036854775807) : wrap64 ((j : Int) + 1) = ((j + 1 : Nat) : Int) := by unfold wrap64; omega
theorem wrap_pred (j : Nat) (h : j < 9223372036854775807) : wrap64 (((j + 1 : Nat) : Int) - 1) = (j : Int) := by unfold wrap64; omega
theorem bytes_length (w : ByteArray) : (bytesOf w).length = w.size := bytesOf_length w
theorem drop_bytes (w : ByteArray) (j : Nat) (h : j < w.size) : (bytesOf w).drop j = bt w (j : Int) :: (bytesOf w).drop (j + 1) := by
  have h2 : j < (bytesOf w).length := by rw [bytesOf_length]; exact h
  rw [List.drop_eq_getElem_cons h2]
  congr 1
  have := rd_bytesOf w (j : Int)
  rw [← this, rd]
  simp [List.getD, h2]
theorem drop_all (w : ByteArray) (j : Nat) (h : w.size ≤ j) : (bytesOf w).drop j = [] := List.drop_eq_nil_of_le (by rw [bytesOf_length]; exact h)
theorem extract_one (w : ByteArray) (j : Nat) (h : j < w.size) : w.extract j (j + 1) = ⟨#[w[j]]⟩ := by
  apply ByteArray.ext
  rw [ByteArray.data_extract]
  apply Array.ext
  · simp; show min (j + 1) w.size - j = 1; omega
  · intro i h1 h2
    have : i = 0 := by simp at h2; omega
    subst this
    simp
    rfl
theorem strOfNums_bytes (w : ByteArray) : strOfNums (bytesOf w) = w := by
  unfold strOfNums bytesOf
  apply ByteArray.ext
  simp [Function.comp_def]
theorem bytes_inj {v w : ByteArray} (h : bytesOf v = bytesOf w) : v = w := by rw [← strOfNums_bytes v, h, strOfNums_bytes w]
theorem toList_data (w : ByteArray) : w.toList = w.data.toList := ByteArray.toList_eq w
theorem toList_beq (v w : ByteArray) : (v.toList == w.toList) = (bytesOf v == bytesOf w) := by
  rw [Bool.eq_iff_iff, beq_iff_eq, beq_iff_eq, ByteArray.toList_eq, ByteArray.toList_eq]
  exact ⟨fun h => by rw [bytesOf, h]; rfl, fun h => by rw [bytes_inj h]⟩
theorem bytes_strOfNums (l : List Int) (h : ∀ c ∈ l, 0 ≤ c ∧ c ≤ 255) : bytesOf (strOfNums l) = l := by
  unfold bytesOf strOfNums
  simp only [List.map_map]
  conv => rhs; rw [← List.map_id l]
  apply List.map_congr_left
  intro c hc
  obtain ⟨h0, h1⟩ := h c hc
  simp
  omega
end Go.Proofs.YtgnngpkaddbhiaaDoorU
