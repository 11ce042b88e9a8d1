/- A part of the proof: B0, D2. -/
import Derived.Test.YtaillfemdmkdpaaGreatK03
import Derived.ProofKit
import Derived.Carry
set_option linter.unusedVariables false
set_option linter.unusedSimpArgs false
section
set_option linter.unusedVariables false
set_option linter.unusedSimpArgs false
namespace Go.TM
open Go
/-! ### what a call is given, as data: from the statement's reader to the trees -/
section
variable {H : Type} {enc : TypeId × Value → H} {P : Program} {W : World}
/-- Old blocks. -/
abbrev Old (W : World) : Nat → Prop := fun b => b < W.heap.size
/-- A type is read as data of a kind. -/
def Rd (P : Program) (W : World) (enc : TypeId × Value → H) (t : TypeId) {α : Type} (f : α → V) (p : α → Prop) : Prop :=
  ∀ (fuel : Nat) (cs : List Value) (x : DataW H × List MemPlace), DataW.trod enc P W 0 (fun _ => true) true fuel t cs = some x →
    ∃ a, p a ∧ All2 (fun l u => FR W (Old W) (vw l) u) (leaves (f a)) cs
theorem rd_str {t : TypeId} (ht : P.underlying t = some .string) : Rd P W enc t V.str strLim := fun fuel cs x h => by
  obtain ⟨s, rfl, _, hs⟩ := DataW.trod_string ht h
  exact ⟨s, hs, .str s, trivial⟩
theorem rd_int {t : TypeId} {k : IntKind} (ht : P.underlying t = some (.int k)) : Rd P W enc t (V.int k) (fun _ => True) := fun fuel cs x h => by
  obtain ⟨n, rfl, _, _⟩ := DataW.trod_int ht h
  exact ⟨n, trivial, .int k n, trivial⟩
theorem rd_bool {t : TypeId} (ht : P.underlying t = some .bool) : Rd P W enc t V.bool (fun _ => True) := fun fuel cs x h => by
  obtain ⟨b, rfl, _⟩ := DataW.trod_bool ht h
  exact ⟨b, trivial, .bool b, trivial⟩
theorem list_of {α : Type} {Q : Nat → α → Prop} : ∀ (n : Nat), (∀ i, i < n → ∃ a, Q i a) → ∃ xs : List α, xs.length = n ∧ ∀ i a, xs[i]? = some a → Q i a
  | 0, _ => ⟨[], rfl, fun i a h => by simp at h⟩
  | n + 1, h => by
    obtain ⟨xs, hl, hx⟩ := list_of n fun i hi => h i (by omega)
    obtain ⟨a, ha⟩ := h n (by omega)
    refine ⟨xs ++ [a], by simp [hl], fun i b hb => ?_⟩
    by_cases hi : i < n
    · rw [List.getElem?_append_left (by omega)] at hb
      exact hx i b hb
    · rw [List.getElem?_append_right (by omega), hl] at hb
      by_cases e : i = n
      · subst e
        simp at hb
        subst hb
        exact ha
      · rw [List.getElem?_eq_none (by simp; omega)] at hb
        cases hb
theorem cells_spec {a : Addr} {n : Nat} {cs : List Value} (h : W.cells? 0 a n = some cs) : cs.length = n ∧ ∀ i, i < n → W.cell? (a.add i) = cs[i]? := by
  unfold World.cells? at h
  rw [if_pos (Nat.zero_le _)] at h
  exact ⟨by simpa using mapM_some_length h, fun i hi => mapM_some_get h i i (by simp [hi])⟩
theorem cell_spot {a : Addr} {u : Value} (h : W.cell? a = some u) : a.spot = none ∧ a.block < W.heap.size := by
  unfold World.cell? at h
  split at h
  · rename_i hb
    split at h
    · cases h
    · rename_i hs
      refine ⟨by simpa using hs, ?_⟩
      rw [Array.getElem?_eq_some_iff] at hb
      exact hb.1
  · cases h
theorem rd_slice {α : Type} {f : α → V} {p : α → Prop} {t e : TypeId} {n : Nat} (ht : P.underlying t = some (.slice e)) (hc : P.cellsOf e = n) (hn : 0 < n) (hlv : ∀ a, (leaves (f a)).length = n) (hrd : Rd P W enc e f p) :
    Rd P W enc t (fun xs : List α => V.lst (xs.map f)) (limL p) := fun fuel cs x h => by
  rcases DataW.trod_slice ht h with ⟨rfl, _⟩ | ⟨a, len, cap, elems, rest, m, _, rfl, _, _, hlc, hcm, hel, hcells, _, _⟩
  · exact ⟨[], ⟨Nat.zero_le _, fun _ h => by cases h⟩, .nil _ _, trivial⟩
  · rw [hc] at hcells
    have key : ∀ i, i < len → ∃ b : α, p b ∧ ∃ cs' : List Value, W.cells? 0 (a.add (i * n)) n = some cs' ∧ All2 (fun l u => FR W (Old W) (vw l) u) (leaves (f b)) cs' := fun i hi => by
      have h1 := hcells i hi
      rw [List.getElem?_eq_getElem (by omega)] at h1
      obtain ⟨cs', h2, h3⟩ := Option.bind_eq_some_iff.1 h1
      obtain ⟨b, hb, hr⟩ := hrd _ _ _ h3
      exact ⟨b, hb, cs', h2, hr⟩
    obtain ⟨xs, hxl, hxs⟩ := list_of len key
    have hpx : ∀ b ∈ xs, p b := fun b hb => by
      obtain ⟨i, hi, rfl⟩ := List.mem_iff_getElem.1 hb
      exact (hxs i _ (List.getElem?_eq_getElem hi)).1
    refine ⟨xs, ⟨by rw [hxl]; simp only [maxLen] at hcm; simp only [lim]; omega, hpx⟩, ?_, trivial⟩
    show FR W (Old W) (.lst (xs.map f)) _
    by_cases h0 : len = 0
    · have : xs = [] := List.length_eq_zero_iff.1 (by omega)
      subst this
      subst h0
      exact .nil _ _
    · have hsp : a.spot = none ∧ a.block < W.heap.size := by
        obtain ⟨cs', h2, _⟩ := (hxs 0 _ (List.getElem?_eq_getElem (by omega))).2
        obtain ⟨h3, h4⟩ := cells_spec h2
        have h5 := h4 0 hn
        rw [List.getElem?_eq_getElem (by omega)] at h5
        have := cell_spot h5
        simpa [Addr.add] using this
      obtain ⟨b, o, sp⟩ := a
      simp only at hsp
      obtain ⟨rfl, hlt⟩ := hsp
      have hadd : ∀ j i, ((⟨b, o, none⟩ : Addr).add (j * n)).add i = ⟨b, o + j * n + i, none⟩ := fun j i => by
        unfold Addr.add
        split <;> split <;> simp_all
      have hleaf : ∀ j i l, leafAt (xs.map f) j i = some l → ∃ u, W.cell? ⟨b, o + j * n + i, none⟩ = some u ∧ FR W (Old W) (vw l) u := fun j i l hl => by
        unfold leafAt at hl
        rw [List.getElem?_map] at hl
        cases hj : xs[j]? with
        | none => rw [hj] at hl; cases hl
        | some y =>
          rw [hj] at hl
          simp only [Option.map_some, Option.bind_some] at hl
          obtain ⟨_, cs', h2, h3⟩ := hxs j y hj
          obtain ⟨u, hu, hr⟩ := h3.get i l hl
          obtain ⟨h4, h5⟩ := cells_spec h2
          have hi : i < n := by
            have := (List.getElem?_eq_some_iff.1 hu).1
            omega
          refine ⟨u, ?_, hr⟩
          rw [← hadd, h5 i hi, hu]
      have hfin := FR.lst (W := W) (F := Old W) (xs.map f) b o cap n (fun j i => (W.cell? ⟨b, o + j * n + i, none⟩).getD undef) hlt (by simp; omega) (by simp only [List.length_map]; omega)
        (fun e he => by
          obtain ⟨y, _, rfl⟩ := List.mem_map.1 he
          exact hlv y)
        (fun j i l hl => by
          obtain ⟨u, h1, _⟩ := hleaf j i l hl
          rw [h1]
          rfl)
        (fun j i l hl => by
          obtain ⟨u, h1, h2⟩ := hleaf j i l hl
          rw [h1]
          exact h2)
      rw [List.length_map, hxl] at hfin
      exact hfin
/-- A struct all of whose fields are of one cell. -/
def oneB (P : Program) (t : TypeId) (fs : Array Go.Field) : Bool := decide (P.cellsOf t = fs.size) && fs.toList.zipIdx.all fun y => decide (y.1.offset = y.2) && decide (P.cellsOf y.1.type = 1)
theorem rd_cells {t : TypeId} {fs : Array Go.Field} (ht : P.underlying t = some (.struct fs)) (hB : oneB P t fs = true) {fuel : Nat} {cs : List Value} {x : DataW H × List MemPlace} (h : DataW.trod enc P W 0 (fun _ => true) true fuel t cs = some x) :
    cs.length = fs.size ∧ ∃ n, ∀ (i : Nat) (f : Go.Field), fs[i]? = some f → ∃ c y, cs[i]? = some c ∧ DataW.trod enc P W 0 (fun _ => true) true n f.type [c] = some y := by
  obtain ⟨xs, n, _, _, hl, hxl, hf⟩ := DataW.trod_struct ht h
  simp only [oneB, Bool.and_eq_true, decide_eq_true_eq, List.all_eq_true] at hB
  refine ⟨by rw [hl, hB.1], n, fun i f hfi => ?_⟩
  have h1 := hf i f hfi
  have hi : i < fs.size := by
    rw [Array.getElem?_eq_some_iff] at hfi
    exact hfi.1
  have h2 := hB.2 (f, i) (by
    rw [List.mem_zipIdx_iff_getElem?]
    simpa using hfi)
  simp only at h2
  have hic : i < cs.length := by rw [hl, hB.1]; exact hi
  rw [h2.1, h2.2, List.getElem?_eq_getElem (by omega)] at h1
  refine ⟨cs[i], xs[i], List.getElem?_eq_getElem hic, ?_⟩
  have e : (cs.drop i).take 1 = [cs[i]] := by
    rw [List.drop_eq_getElem_cons hic]
    rfl
  rw [e] at h1
  exact h1
end
end Go.TM
end
section
set_option linter.unusedVariables false
namespace Go.TM
open Go
/-! ### all and any, as loops tell them -/
def allI {α : Type} (p : Nat → α → Bool) (xs : List α) (i : Nat) : Bool := (xs.take i).zipIdx.all fun y => p y.2 y.1
section
variable {α : Type} {p : Nat → α → Bool} {xs : List α} {i : Nat} {x : α}
@[simp] theorem allI_zero : allI p xs 0 = true := by simp [allI]
theorem allI_succ (hx : xs[i]? = some x) : allI p xs (i + 1) = (allI p xs i && p i x) := by
  have hi : i < xs.length := by
    rw [List.getElem?_eq_some_iff] at hx
    exact hx.1
  simp only [allI, List.take_add_one, hx, Option.toList_some, List.zipIdx_append, List.all_append]
  simp [Nat.min_eq_left (Nat.le_of_lt hi)]
theorem allI_no (hx : xs[i]? = some x) (hp : p i x = false) : allI p xs xs.length = false := by
  have hi : i < xs.length := by
    rw [List.getElem?_eq_some_iff] at hx
    exact hx.1
  rw [List.getElem?_eq_some_iff] at hx
  simp only [allI, List.take_length, List.all_eq_false]
  refine ⟨(x, i), ?_, by simp [hp]⟩
  rw [List.mem_zipIdx_iff_getElem?]
  simp [hx.2, hi]
theorem allI_iff : allI p xs xs.length = true ↔ ∀ i x, xs[i]? = some x → p i x = true := by
  simp only [allI, List.take_length, List.all_eq_true, Prod.forall]
  constructor
  · intro h i x hx
    exact h x i (by rw [List.mem_zipIdx_iff_getElem?]; exact hx)
  · intro h x i hm
    rw [List.mem_zipIdx_iff_getElem?] at hm
    exact h i x hm
end
def anyI {α : Type} (p : α → Bool) (xs : List α) (i : Nat) : Bool := (xs.take i).any p
section
variable {α : Type} {p : α → Bool} {xs : List α} {i : Nat} {x : α}
@[simp] theorem anyI_zero : anyI p xs 0 = false := by simp [anyI]
theorem anyI_succ (hx : xs[i]? = some x) : anyI p xs (i + 1) = (anyI p xs i || p x) := by
  simp [anyI, List.take_add_one, hx]
theorem anyI_all : anyI p xs xs.length = xs.any p := by simp [anyI]
theorem any_yes (hx : xs[i]? = some x) (hp : p x = true) : xs.any p = true := List.any_eq_true.2 ⟨x, List.mem_of_getElem? hx, hp⟩
end
/-- The first that is so, from i on. -/
def fstI {α : Type} (p : α → Bool) (xs : List α) : Int := if xs.any p = true then (xs.findIdx p : Nat) else -1
theorem fst_yes {α : Type} {p : α → Bool} {xs : List α} {i : Nat} {x : α} (hx : xs[i]? = some x) (hp : p x = true) (hn : anyI p xs i = false) : fstI p xs = i := by
  rw [fstI, if_pos (any_yes hx hp)]
  congr 1
  have hi : i < xs.length := by
    rw [List.getElem?_eq_some_iff] at hx
    exact hx.1
  rw [List.findIdx_eq hi]
  rw [List.getElem?_eq_some_iff] at hx
  refine ⟨by rw [hx.2]; exact hp, fun j hj => ?_⟩
  simp only [anyI, List.any_eq_false] at hn
  have := hn xs[j] (by rw [List.mem_take_iff_getElem]; exact ⟨j, by omega, rfl⟩)
  simpa using this
theorem fst_no {α : Type} {p : α → Bool} {xs : List α} (hn : anyI p xs xs.length = false) : fstI p xs = -1 := by
  rw [anyI_all] at hn
  simp [fstI, hn]
theorem fst_ge {α : Type} (p : α → Bool) (xs : List α) : decide (0 ≤ fstI p xs) = xs.any p := by
  unfold fstI
  cases h : xs.any p <;> simp
/-! ### names -/
def letterB (n : Int) : Bool := (decide (65 ≤ n) && decide (n ≤ 90)) || (decide (97 ≤ n) && decide (n ≤ 122))
def digitB (n : Int) : Bool := decide (48 ≤ n) && decide (n ≤ 57)
def inB (n lo hi : Int) : Bool := decide (lo ≤ n) && decide (n ≤ hi)
def okB (i : Nat) (b : UInt8) : Bool := letterB b.toNat || (!decide (i = 0) && digitB b.toNat)
def nameB (s : ByteArray) : Bool := allI okB s.data.toList s.size && inB s.size 1 10
theorem ba_len (s : ByteArray) : s.size = s.data.toList.length := by
  rw [Array.length_toList]
  rfl
def hasB (l : List ByteArray) (s : ByteArray) : Bool := l.any fun x => decide (x = s)
theorem okB_no {i : Nat} {x : UInt8} : okB i x = false ↔ (letterB (x.toNat : Int) = false ∧ (i = 0 ∨ digitB (x.toNat : Int) = false)) := by
  unfold okB
  cases letterB (x.toNat : Int) <;> cases digitB (x.toNat : Int) <;> simp
theorem okB_no2 {i : Nat} {x : UInt8} : okB i x = false ↔ (((x.toNat : Int) < 65 ∨ 90 < (x.toNat : Int)) ∧ ((x.toNat : Int) < 97 ∨ 122 < (x.toNat : Int))) ∧ ((i = 0 ∨ (x.toNat : Int) < 48) ∨ 57 < (x.toNat : Int)) := by
  rw [okB_no]
  simp only [letterB, digitB, Bool.or_eq_false_iff, Bool.and_eq_false_iff, decide_eq_false_iff_not]
  omega
def unlikeB (l : List ByteArray) : Bool := allI (fun i x => nameB x && !hasB (l.take i) x) l l.length
theorem injLS {α : Type} {f : α → V} (hf : Function.Injective f) {β : Type} (out : List α × ByteArray → β) : ∀ a b : List α × ByteArray, [V.lst (a.1.map f), .str a.2] = [V.lst (b.1.map f), .str b.2] → out a = out b := by
  rintro ⟨a, i⟩ ⟨b, j⟩ h
  simp only [List.cons.injEq, and_true, V.lst.injEq, V.str.injEq] at h
  rw [map_inj hf h.1, h.2]
end Go.TM
end
