/- A part of the proof: R7, R7b, R7c, R7d, R7e, R7f, R8, R8b, R9, R10, R10b, R11, R12, R13, RJ, R13b, R14, R15. -/
import Derived.Test.YtgpkbmekdmpgoaaGreatDoorK01
import Derived.Laws.CopyRow
import Derived.Great.BuildSlice
import Derived.Laws.MakeOwn
import Derived.Deep.AppendSrc
import Derived.Laws.Tables
import Derived.Laws.BytesString
import Derived.OrdersHeld
import Derived.Laws.Cover3
import Derived.Deep.Quiet
import Derived.Lib.ConvBytes
set_option linter.unusedVariables false
set_option linter.unusedSimpArgs false
section
namespace Go.TM
open Go
def LR (W : World) (F : Nat → Prop) (S : Nat → Prop) : V → Value → Prop
  | .inl z ys, u => OwnN W F S z u ys
  | l, u => FR W F l u
section
variable {W W' : World} {F F' S S' : Nat → Prop}
theorem LR.mono {l : V} {u : Value} (h : LR W F S l u) (hW : ∀ b, F b → W'.heap[b]? = W.heap[b]?) (hF : ∀ b, F b → F' b) (hS : ∀ b, S b → S' b ∧ W'.heap[b]? = W.heap[b]?) : LR W' F' S' l u := by
  cases l with
  | inl z ys => exact OwnN.mono h hW hF hS
  | _ => exact FR.mono h hW hF
theorem LR.fr {l : V} {u : Value} (h : LR W F S l u) (hl : ∀ z ys, l ≠ .inl z ys) : FR W F l u := by
  cases l <;> first | exact h | exact absurd rfl (hl _ _)
theorem mkRow {b o c sz : Nat} {cs : Array Value} {ty : TypeId} {xs : List V} {Bs : Nat → Nat → Nat → Prop} {B : Nat → Prop} (hb : W.heap[b]? = some (.cells cs ty (0, 0))) (hn : xs.length ≤ c) (hm : c ≤ maxLen) (hcs : cs.size = o + c * sz)
    (hs : ∀ e ∈ xs, (leaves e).length = sz) (hleaf : ∀ j i l, leafAt xs j i = some l → ∃ u, cs[o + j * sz + i]? = some u ∧ LR W F (Bs j i) l u)
    (hd : ∀ j i j' i' x, Bs j i x → Bs j' i' x → j = j' ∧ i = i') (hBs : ∀ j i x, Bs j i x → B x ∧ x ≠ b) (hB : B b) : OwnN W F B sz (.slice (some ⟨b, o, none⟩) xs.length c) xs := by
  have key : ∀ j i l, leafAt xs j i = some l → cs[o + j * sz + i]? = some (cs.getD (o + j * sz + i) undef) ∧ LR W F (Bs j i) l (cs.getD (o + j * sz + i) undef) := by
    intro j i l h
    obtain ⟨u, h1, h2⟩ := hleaf j i l h
    have : cs.getD (o + j * sz + i) undef = u := by
      obtain ⟨hlt, he⟩ := Array.getElem?_eq_some_iff.1 h1
      simp [Array.getD, hlt, he]
    rw [this]
    exact ⟨h1, h2⟩
  exact .row B sz xs b o c cs ty (fun j i => cs.getD (o + j * sz + i) undef) Bs hB hBs hd hb hn hm hcs hs (fun j i l h => (key j i l h).1) (fun j i l h hl => (key j i l h).2.fr hl)
    fun j i z ys h => (key j i _ h).2
theorem LR.of {l : V} {u : Value} {Bs : Nat → Prop} (h1 : (∀ z ys, l ≠ .inl z ys) → FR W F l u) (h2 : ∀ z ys, l = .inl z ys → OwnN W F Bs z u ys) : LR W F Bs l u := by
  cases l with
  | inl z ys => exact h2 z ys rfl
  | _ => exact h1 (by intro z ys e; cases e)
theorem LR.one {l : V} {u : Value} (h : LR W F S l u) : u.oneCell' = true := by
  cases l with
  | inl z ys =>
    have h' : OwnN W F S z u ys := h
    cases h' <;> rfl
  | _ =>
    have h' : FR W F _ u := h
    cases h' <;> first | rfl | (rename_i hd; cases hd <;> rfl)
end
section
variable {P : Program} {E : Env} {M : Mem} {W : World} {s : S} {n : Nat} {a : Act}
def Step (P : Program) (n : Nat) (M : Mem) (W : World) (a : Act) (o : Oper) (r : R) : Prop := ∀ (K : Act → World → Prop) (Q : Exit → Act → World → Prop),
  (∀ M' W' val, St n M' W' r.s a → SR2 M' W' r.v val → Evo M W M' W' → K (a.put o.dst val) W') → o.wp P a W K Q
theorem wp_value {o : Oper} {val : Value} {W' : World} {K : Act → World → Prop} {Q : Exit → Act → World → Prop} (h : (execOp a.eval o).run P W = .ok (.value val) W') (hK : K (a.put o.dst val) W') : o.wp P a W K Q := by
  unfold Oper.wp
  rw [h]
  exact hK
theorem MemOK.world (h : MemOK M W s) {W' : World} (hz : W.heap.size ≤ W'.heap.size) (hs : ∀ b, (M.F b ∨ M.ω b ≠ none) → W'.heap[b]? = W.heap[b]?) : MemOK M W' s := by
  have hk : Keep M W M W' := ⟨fun _ h => h, fun b hb => hs b (.inl hb), fun _ _ => rfl, fun _ _ _ _ => rfl, fun _ _ => rfl, Nat.le_refl _, Nat.le_refl _⟩
  have hl : ∀ b l, M.ω b = some l → W'.heap[b]? = W.heap[b]? := fun b l hl => hs b (.inr (by rw [hl]; simp))
  exact {
    nt := h.nt
    nb := h.nb
    box := fun b c hb => by
      obtain ⟨h1, cs, ty, h2, h3, h4⟩ := h.box b c hb
      exact ⟨h1, cs, ty, (hl _ _ h3).trans h2, h3, hk.leaves h4⟩
    row := fun t r hr => ⟨(h.row t r hr).1, hk.row (h.row t r hr).1 (fun _ b hb => ⟨hb, hl b _ hb⟩) (h.row t r hr).2⟩
    frz := fun b hb => ⟨(h.frz b hb).1, Nat.lt_of_lt_of_le (h.frz b hb).2 hz⟩
    lt := fun b l hb => Nat.lt_of_lt_of_le (h.lt b l hb) hz
    tok := h.tok
    bx := h.bx }
theorem MemOK.drops (h : MemOK M W s) : ∀ (ts : List Nat), MemOK M W (s.drops ts) := by
  intro ts
  induction ts generalizing s with
  | nil => exact h
  | cons t ts ih => exact ih (h.drop t)
theorem eat_row (h : MemOK M W s) {T : List Nat} {W' : World} (ho : W'.os = W.os) (ht : W'.tape = W.tape) (hp : W'.output = W.output) (hz : W.heap.size ≤ W'.heap.size)
    (hold : ∀ b, b < W.heap.size → (∀ t ∈ T, M.ω b ≠ some (.tok t)) → W'.heap[b]? = W.heap[b]?) {z : Nat} {xs : List V} {v : Value} {B : Nat → Prop} (hown : OwnN W' M.F B z v xs)
    (hB : ∀ b, B b → (∃ t ∈ T, M.ω b = some (.tok t)) ∨ (W.heap.size ≤ b ∧ b < W'.heap.size)) :
    ∃ M'', MemOK M'' W' ((s.drops T).newR z xs) ∧ Keep M W M'' W' ∧ SRL M'' W' (.own s.nt) v ∧ Evo M W M'' W' := by
  have hnotF : ∀ b t, M.ω b = some (.tok t) → ¬ M.F b := fun b t hb hF => by rw [(h.frz b hF).1] at hb; cases hb
  have h1 : MemOK (M.free fun b => ∃ t ∈ T, M.ω b = some (.tok t)) W (s.drops T) := (h.drops T).free (fun b t ⟨t', ht', hb⟩ hl => by
    rw [hb] at hl
    cases hl
    rw [drops_R, if_pos ht']) (fun b k ⟨t', ht', hb⟩ hl => by rw [hb] at hl; cases hl)
  have h2 : MemOK (M.free fun b => ∃ t ∈ T, M.ω b = some (.tok t)) W' (s.drops T) := h1.world hz fun b hb => by
    rcases hb with hb | hb
    · exact hold b (h.frz b hb).2 fun t _ e => hnotF b t e hb
    · obtain ⟨l, hl⟩ := Option.ne_none_iff_exists'.1 hb
      obtain ⟨h3, h4⟩ := free_some hl
      exact hold b (h.lt b l h4) fun t htT e => h3 ⟨t, htT, e⟩
  have hB' : ∀ b, B b → (M.free fun b => ∃ t ∈ T, M.ω b = some (.tok t)).ω b = none ∧ ¬ M.F b ∧ b < W'.heap.size := fun b hb => by
    rcases hB b hb with h3 | h3
    · obtain ⟨t, htT, h4⟩ := h3
      exact ⟨free_in ⟨t, htT, h4⟩, hnotF b t h4, Nat.lt_of_lt_of_le (h.lt b _ h4) hz⟩
    · refine ⟨?_, fun hF => by have := (h.frz b hF).2; omega, h3.2⟩
      cases e : (M.free fun b => ∃ t ∈ T, M.ω b = some (.tok t)).ω b with
      | none => rfl
      | some l => have := h.lt b l (free_some e).2; omega
  obtain ⟨k1, k2, k3, -⟩ := adopt_row h2 hown hB'
  have hk0 : Keep M W (M.free fun b => ∃ t ∈ T, M.ω b = some (.tok t)) W' := ⟨fun _ h => h, fun b hb => hold b (h.frz b hb).2 fun t _ e => hnotF b t e hb, fun _ _ => rfl, fun _ _ _ _ => rfl, fun _ _ => rfl, Nat.le_refl _, Nat.le_refl _⟩
  have hk := hk0.trans k2
  have hnt : (s.drops T).nt = s.nt := (drops_same T s).2.2.1
  refine ⟨_, k1, hk, by rw [← hnt]; exact k3, ho, ht, hp, hz, fun b hb hω => hold b hb (fun t _ e => by rw [hω] at e; cases e), fun b l hl => ?_, fun b hb => .inl hb, fun b hb => hb, hk.nt, hk.nb, hk.ρ, hk.β⟩
  by_cases hb : B b
  · rcases hB b hb with ⟨t, -, h4⟩ | h3
    · left; rw [h4]; simp
    · exact .inr h3.1
  · rw [adopt_out hb] at hl
    left; rw [(free_some hl).2]; simp
theorem newR_e (s : S) (T : List Nat) (z : Nat) (xs : List V) : ((s.drops T).newR z xs).e = s.e := (drops_same T s).1
theorem eat_step (h : St n M W s a) {T : List Nat} {W' : World} (ho : W'.os = W.os) (ht : W'.tape = W.tape) (hp : W'.output = W.output) (hz : W.heap.size ≤ W'.heap.size)
    (hold : ∀ b, b < W.heap.size → (∀ t ∈ T, M.ω b ≠ some (.tok t)) → W'.heap[b]? = W.heap[b]?) {z : Nat} {xs : List V} {v : Value} {B : Nat → Prop} (hown : OwnN W' M.F B z v xs)
    (hB : ∀ b, B b → (∃ t ∈ T, M.ω b = some (.tok t)) ∨ (W.heap.size ≤ b ∧ b < W'.heap.size)) {o : Oper} {c : Prop}
    (hr : (execOp a.eval o).run P W = .ok (.value v) W') : Step P n M W a o (.st c (.own s.nt) ((s.drops T).newR z xs)) := by
  intro K Q hK
  obtain ⟨M'', k1, k2, k3, k4⟩ := eat_row h.mem ho ht hp hz hold hown hB
  exact wp_value hr (hK M'' W' v (h.slots_keep k1 k2 (newR_e s T z xs)) k3 k4)
theorem flat_unique {α : Type} (f : α → List Nat) : ∀ {xs : List α} {i i' t : Nat} {l l' : α}, (xs.flatMap f).Nodup → xs[i]? = some l → t ∈ f l → xs[i']? = some l' → t ∈ f l' → i = i'
  | [], i, i', t, l, l', _, h, _, _, _ => by simp at h
  | x :: xs, i, i', t, l, l', hn, h, ht, h', ht' => by
    rw [List.flatMap_cons, List.nodup_append] at hn
    have mem : ∀ (j : Nat) (y : α), xs[j]? = some y → t ∈ f y → t ∈ xs.flatMap f := fun j y hj hy => List.mem_flatMap.2 ⟨y, List.mem_of_getElem? hj, hy⟩
    cases i with
    | zero =>
      cases i' with
      | zero => rfl
      | succ i' =>
        simp only [List.getElem?_cons_zero, Option.some.injEq] at h
        subst h
        exact absurd rfl (hn.2.2 t ht t (mem i' l' (by simpa using h') ht'))
    | succ i =>
      cases i' with
      | zero =>
        simp only [List.getElem?_cons_zero, Option.some.injEq] at h'
        subst h'
        exact absurd rfl (hn.2.2 t ht' t (mem i l (by simpa using h) ht))
      | succ i' =>
        have := flat_unique f (i := i) (i' := i') hn.2.1 (by simpa using h) ht (by simpa using h') ht'
        omega
theorem leaf_unique {f : V → List Nat} {ps : List V} {j i j' i' t : Nat} {l l' : V} (hn : (ps.flatMap fun p => (leaves p).flatMap f).Nodup) (h : leafAt ps j i = some l) (ht : t ∈ f l) (h' : leafAt ps j' i' = some l') (ht' : t ∈ f l') : j = j' ∧ i = i' := by
  unfold leafAt at h h'
  rw [Option.bind_eq_some_iff] at h h'
  obtain ⟨e, h1, h2⟩ := h
  obtain ⟨e', h3, h4⟩ := h'
  have hj : j = j' := flat_unique (fun p => (leaves p).flatMap f) hn h1 (List.mem_flatMap.2 ⟨l, List.mem_of_getElem? h2, ht⟩) h3 (List.mem_flatMap.2 ⟨l', List.mem_of_getElem? h4, ht'⟩)
  subst hj
  rw [h1] at h3
  cases h3
  refine ⟨rfl, flat_unique f ?_ h2 ht h4 ht'⟩
  have : ∀ (ps : List V) (j : Nat) (e : V), (ps.flatMap fun p => (leaves p).flatMap f).Nodup → ps[j]? = some e → ((leaves e).flatMap f).Nodup := by
    intro ps
    induction ps with
    | nil => intro j e _ h; simp at h
    | cons p ps ih =>
      intro j e hn h
      rw [List.flatMap_cons, List.nodup_append] at hn
      cases j with
      | zero => simp at h; subst h; exact hn.1
      | succ j => exact ih j e hn.2.1 (by simpa using h)
  exact this ps j e hn h1
theorem leafAt_map {m : V → V} (hm : ∀ x ys, m x ≠ .agg ys) {ps : List V} {j i : Nat} {l : V} (h : leafAt (ps.map (onL1 m)) j i = some l) : ∃ l0, leafAt ps j i = some l0 ∧ l = m l0 := by
  unfold leafAt at *
  rw [List.getElem?_map] at h
  cases he : ps[j]? with
  | none => simp [he] at h
  | some e =>
    simp only [he, Option.map_some, Option.bind_some, onL1_leaves m e hm, List.getElem?_map, Option.map_eq_some_iff] at h
    obtain ⟨l0, h1, h2⟩ := h
    exact ⟨l0, by simpa using h1, h2.symm⟩
theorem boxL_of_row {x : V} (h : rowL s x = true) : boxL s x = true := by
  cases x <;> first | rfl | exact h | simp [rowL] at h
theorem boxV_of_row {x : V} (h : rowV s x = true) : boxV s x = true := by
  by_cases ha : ∃ xs, x = .agg xs
  · obtain ⟨xs, rfl⟩ := ha
    exact List.all_eq_true.2 fun y hy => boxL_of_row (List.all_eq_true.1 h y hy)
  · have e1 : boxV s x = boxL s x := by cases x <;> first | rfl | exact absurd ⟨_, rfl⟩ ha
    have e2 : rowV s x = rowL s x := by cases x <;> first | rfl | exact absurd ⟨_, rfl⟩ ha
    rw [e1]
    rw [e2] at h
    exact boxL_of_row h
theorem box_leaf_one (hm : MemOK M W s) {x : V} {v : Value} (hb : boxL s x = true) (h : SRL M W x v) : v.cells.toList = [v] ∧ v.oneCell' = true := by
  cases x with
  | int => cases h; exact ⟨rfl, rfl⟩
  | bool => cases h; exact ⟨rfl, rfl⟩
  | str => cases h; exact ⟨rfl, rfl⟩
  | raw h' =>
    have e : v = h'.val := h
    subst e
    cases h' <;> exact ⟨rfl, rfl⟩
  | nilp => cases h; exact ⟨rfl, rfl⟩
  | nili => cases h; exact ⟨rfl, rfl⟩
  | lst xs =>
    have h' : FR W M.F (.lst xs) v := h
    cases h' <;> exact ⟨rfl, rfl⟩
  | inl z xs => obtain ⟨rfl, A, rfl⟩ := h; exact ⟨rfl, rfl⟩
  | own t =>
    obtain ⟨-, rfl⟩ := h
    obtain ⟨r, hr⟩ := Option.isSome_iff_exists.1 hb
    obtain ⟨A, c, e⟩ := (hm.row t r hr).2.len
    rw [e]
    exact ⟨rfl, rfl⟩
  | ptr b off => obtain ⟨h1, rfl⟩ := h; exact ⟨rfl, rfl⟩
  | fn f caps => obtain ⟨cs, rfl, h1⟩ := h; exact ⟨rfl, rfl⟩
  | sub t i o =>
    obtain ⟨-, rfl⟩ := h
    obtain ⟨p, hp⟩ := Option.isSome_iff_exists.1 hb
    obtain ⟨r, h1, h2, h3⟩ := nest_spec hp
    obtain ⟨B, h4, _⟩ := (hm.row t r h1).2.nested h2 h3
    have e : ∃ A n c, M.σ t i o = .slice A n c := by
      generalize M.σ t i o = q at h4
      generalize p.2 = ys at h4
      cases h4 <;> exact ⟨_, _, _, rfl⟩
    obtain ⟨A, n, c, e⟩ := e
    rw [e]
    exact ⟨rfl, rfl⟩
  | _ => simp [boxL] at hb
theorem SR1_cells (hm : MemOK M W s) {p : V} {v : Value} (hp : boxV s p = true) (h : SR1 M W p v) : All2 (SRL M W) (leaves p) v.cells.toList ∧ ∀ u ∈ v.cells.toList, u.oneCell' = true := by
  by_cases ha : ∃ xs, p = .agg xs
  · obtain ⟨xs, rfl⟩ := ha
    obtain ⟨vs, rfl, ha⟩ := h
    refine ⟨by simpa [Value.cells, leaves] using ha, fun u hu => ?_⟩
    have hu' : u ∈ vs := by simpa [Value.cells] using hu
    obtain ⟨i, hi⟩ := List.mem_iff_getElem?.1 hu'
    have hlt : i < xs.length := by rw [ha.length]; exact (List.getElem?_eq_some_iff.1 hi).1
    obtain ⟨u', h1, h2⟩ := ha.get i xs[i] (List.getElem?_eq_getElem hlt)
    rw [hi] at h1
    cases h1
    exact (box_leaf_one hm (List.all_eq_true.1 hp _ (List.getElem_mem hlt)) h2).2
  · have h0 : SRL M W p v := by cases p <;> first | exact h | exact absurd ⟨_, rfl⟩ ha
    have hb : boxL s p = true := by cases p <;> first | exact hp | exact absurd ⟨_, rfl⟩ ha
    obtain ⟨h1, h2⟩ := box_leaf_one hm hb h0
    rw [leaves_ne ha, h1]
    exact ⟨⟨h0, trivial⟩, fun u hu => by simp only [List.mem_singleton] at hu; rw [hu]; exact h2⟩
theorem LR_close (hm : MemOK M W s) {W' : World} {l : V} {u : Value} (hr : rowL s l = true) (h : SRL M W l u) (hF : ∀ b, M.F b → W'.heap[b]? = W.heap[b]?) (hT : ∀ b t, M.ω b = some (.tok t) → t ∈ eatL s l → W'.heap[b]? = W.heap[b]?) :
    LR W' M.F (fun b => ∃ t, t ∈ eatL s l ∧ M.ω b = some (.tok t)) (closeL s l) u := by
  cases l with
  | int => cases h; exact .int _ _
  | bool => cases h; exact .bool _
  | str => cases h; exact .str _
  | raw h' =>
    have e : u = h'.val := h
    subst e
    exact .raw _
  | lst xs => exact FR.mono h hF fun _ h => h
  | own t =>
    obtain ⟨-, rfl⟩ := h
    obtain ⟨⟨z, xs, wr⟩, hR⟩ := Option.isSome_iff_exists.1 hr
    cases wr with
    | true =>
      have e1 : closeL s (.own t) = .inl z xs := by simp [closeL, hR]
      have e2 : eatL s (.own t) = [t] := by simp [eatL, hR]
      rw [e1]
      rw [e2] at hT ⊢
      rcases (hm.row t _ hR).2 with ⟨-, B, h1, h2, -⟩ | ⟨hw, -⟩
      · exact OwnN.mono h1 hF (fun _ h => h) fun b hb => ⟨⟨t, by simp, h2 b hb⟩, hT b t (h2 b hb) (by simp)⟩
      · cases hw
    | false =>
      have e1 : closeL s (.own t) = .lst xs := by simp [closeL, hR]
      rw [e1]
      rcases (hm.row t _ hR).2 with ⟨hw, -⟩ | ⟨-, h1, -⟩
      · cases hw
      · exact FR.mono h1 hF fun _ h => h
  | inl z xs =>
    obtain ⟨rfl, A, rfl⟩ := h
    exact OwnN.nil _ _ _
  | _ => simp [rowL] at hr
theorem row_parts (hm : MemOK M W s) {W' : World} {T : List Nat} {ps : List V} {vs : List Value} {sz b c : Nat} {cs : Array Value} {ty : TypeId} (hT : T = ps.flatMap (eat1 s))
    (hb : W'.heap[b]? = some (.cells cs ty (0, 0))) (hbn : W.heap.size ≤ b) (hcs : cs.size = c * sz) (hn : ps.length ≤ c) (hmx : c ≤ maxLen)
    (hp : All2 (SR1 M W) ps vs) (hrow : ∀ p ∈ ps, rowV s p = true ∧ (leaves p).length = sz) (hnd : T.Nodup)
    (hcells : ∀ j i v, vs[j]? = some v → i < sz → cs[j * sz + i]? = v.cells[i]?) (hF : ∀ x, x < W.heap.size → W'.heap[x]? = W.heap[x]?) :
    OwnN W' M.F (fun x => x = b ∨ ∃ t ∈ T, M.ω x = some (.tok t)) sz (.slice (some ⟨b, 0, none⟩) ps.length c) (ps.map (onL1 (closeL s))) := by
  have hlen : (ps.map (onL1 (closeL s))).length = ps.length := by simp
  rw [← hlen]
  refine mkRow (Bs := fun j i x => ∃ t, (∃ l, leafAt ps j i = some l ∧ t ∈ eatL s l) ∧ M.ω x = some (.tok t)) hb (by rw [hlen]; exact hn) hmx (by simpa using hcs) (fun e he => ?_) (fun j i l hl => ?_) (fun j i j' i' x h1 h2 => ?_) (fun j i x h1 => ?_) (.inl rfl)
  · obtain ⟨p, hp', rfl⟩ := List.mem_map.1 he
    rw [onL1_leaves _ _ (closeL_noAgg s), List.length_map]
    exact (hrow p hp').2
  · obtain ⟨l0, h1, rfl⟩ := leafAt_map (closeL_noAgg s) hl
    have h1' := h1
    unfold leafAt at h1
    rw [Option.bind_eq_some_iff] at h1
    obtain ⟨p, h2, h3⟩ := h1
    obtain ⟨v, h4, h5⟩ := hp.get j p h2
    have hpm := List.mem_of_getElem? h2
    have hi : i < sz := by
      rw [← (hrow p hpm).2]
      exact (List.getElem?_eq_some_iff.1 h3).1
    obtain ⟨u, h6, h7⟩ := (SR1_cells hm (boxV_of_row (hrow p hpm).1) h5).1.get i l0 h3
    have hrl : rowL s l0 = true := by
      have h8 := (hrow p hpm).1
      have h9 := List.mem_of_getElem? h3
      cases p with
      | agg xs => exact List.all_eq_true.1 h8 l0 h9
      | _ => simp only [leaves, List.mem_singleton] at h9; rw [h9]; exact h8
    refine ⟨u, ?_, ?_⟩
    · rw [Nat.zero_add, hcells j i v h4 hi]
      simpa using h6
    · exact (LR_close hm hrl h7 (fun b hb => hF b (hm.frz b hb).2) (fun b t h8 h9 => hF b (hm.lt b _ h8))).mono (fun _ _ => rfl) (fun _ h => h) (fun x ⟨t, h8, h9⟩ => ⟨⟨t, ⟨l0, h1', h8⟩, h9⟩, rfl⟩)
  · obtain ⟨t, ⟨l, h3, h4⟩, h5⟩ := h1
    obtain ⟨t', ⟨l', h6, h7⟩, h8⟩ := h2
    rw [h5] at h8
    cases h8
    rw [hT] at hnd
    exact leaf_unique hnd h3 h4 h6 h7
  · obtain ⟨t, ⟨l, h3, h4⟩, h5⟩ := h1
    refine ⟨.inr ⟨t, ?_, h5⟩, fun e => ?_⟩
    · rw [hT]
      unfold leafAt at h3
      rw [Option.bind_eq_some_iff] at h3
      obtain ⟨p, h6, h7⟩ := h3
      exact List.mem_flatMap.2 ⟨p, List.mem_of_getElem? h6, List.mem_flatMap.2 ⟨l, List.mem_of_getElem? h7, h4⟩⟩
    · subst e
      have := hm.lt _ _ h5
      omega
theorem zip_parts {α : Type} : ∀ (l : List (Nat × α)) (k : Nat), l.map (·.1) = List.range' k l.length → l = ((l.map (·.2)).zipIdx k).map fun x => (x.2, x.1)
  | [], _, _ => rfl
  | p :: l, k, h => by
    simp only [List.map_cons, List.length_cons, List.range'_succ, List.cons.injEq] at h
    simp only [List.map_cons, List.zipIdx_cons, List.cons.injEq]
    exact ⟨by rw [← h.1], zip_parts l (k + 1) h.2⟩
theorem rowV_notTup {x : V} (h : rowV s x = true) : isTup x = false := by
  cases x <;> first | rfl | simp [rowV, rowL] at h
theorem boxV_notTup {x : V} (h : boxV s x = true) : isTup x = false := by
  cases x <;> first | rfl | simp [boxV, boxL] at h
theorem rows_one : ∀ {xs : List V} {vs : List Value}, (∀ p ∈ xs, rowV s p = true) → All2 (SR2 M W) xs vs → All2 (SR1 M W) xs vs := fun hx h =>
  h.imp_mem fun x v hm hr => SR1_of_2 hr (rowV_notTup (hx x hm))
theorem run_buildSlice0 (w : World) (t e : TypeId) (ie : TypeInfo) (hu : P.underlying t = some (.slice e)) (hie : P.info? e = some ie) :
    (Instr.buildSlice t 0 #[]).run P w = .ok (.slice (some ⟨w.heap.size, 0, none⟩) 0 0) (w.alloc (.cells #[] e)) := by
  simp [Instr.buildSlice, run_underlying hu, sizeOf, typeInfo, hie, Instr.fill, newRow, Array.range_zero']
theorem buildSlice_sound (sta : StaOK P E) (h : St n M W s a) {o : Oper} {t : TypeId} {len : Nat} {parts : Array (Nat × Operand)} (ho : o.op = .buildSlice t len parts)
    (hok : (parts.toList.map (·.2)).all (okOp n) = true) (hn : needs true s (parts.toList.map (·.2)))
    (hc : (buildSliceR ((E.el t).bind E.ti) len (parts.toList.map fun p => (p.1, opnd s p.2)) s).c) : Step P n M W a o (buildSliceR ((E.el t).bind E.ti) len (parts.toList.map fun p => (p.1, opnd s p.2)) s) := by
  have hrel := opnds_sound h hok hn
  unfold buildSliceR at hc ⊢
  cases htt : (E.el t).bind E.ti with
  | none => rw [htt] at hc; exact hc.elim
  | some tt =>
    rw [htt] at hc
    simp only at hc ⊢
    obtain ⟨⟨hsz, hsmall, hz⟩, hidx, hall, hnd⟩ := hc
    rw [Option.bind_eq_some_iff] at htt
    obtain ⟨e, he, ht⟩ := htt
    have hu := sta.el t e he
    obtain ⟨ie, hie, his, hib, z, hzz, hzr⟩ := (sta.ti e tt ht).info
    let ps : List V := (parts.toList.map (·.2)).map (opnd s)
    let vs : List Value := (parts.toList.map (·.2)).map a.eval
    have e1 : ((parts.toList.map fun p => (p.1, opnd s p.2)).flatMap fun p => eat1 s p.2) = ps.flatMap (eat1 s) := by simp [ps, List.flatMap_map]
    have e2 : ((parts.toList.map fun p => (p.1, opnd s p.2)).map fun p => onL1 (closeL s) p.2) = ps.map (onL1 (closeL s)) := by simp [ps]
    rw [e1] at hnd ⊢
    rw [e2]
    have hrow : ∀ p ∈ ps, rowV s p = true ∧ (leaves p).length = tt.sz := by
      intro p hp
      simp only [ps, List.map_map, List.mem_map] at hp
      obtain ⟨q, hq, rfl⟩ := hp
      have := List.all_eq_true.1 hall (q.1, opnd s q.2) (List.mem_map.2 ⟨q, hq, rfl⟩)
      simpa using this
    have hp : All2 (SR1 M W) ps vs := rows_one (fun p hp => (hrow p hp).1) hrel
    have hidx' : (parts.toList.map fun p => (p.1, a.eval p.2)).map (·.1) = List.range' 0 (parts.toList.map fun p => (p.1, a.eval p.2)).length := by
      have h1 : (parts.toList.map (·.1)) = List.range len := by
        rw [← hidx, List.map_map]
        rfl
      have h2 : parts.toList.length = len := by
        have := congrArg List.length h1
        simpa using this
      rw [List.map_map, List.length_map, h2, ← List.range_eq_range', ← h1]
      rfl
    have hlen : ps.length = len := by
      have := congrArg List.length hidx
      simpa [ps] using this
    have hvl : vs.length = len := by rw [← hlen]; exact hp.length.symm
    have hvsz : ∀ v ∈ vs, v.cells.size = tt.sz := by
      intro v hv
      obtain ⟨j, hj⟩ := List.getElem?_of_mem hv
      have hjl : j < ps.length := by
        rw [hp.length]
        exact (List.getElem?_eq_some_iff.1 hj).1
      obtain ⟨v', h1, h2⟩ := hp.get j ps[j] (List.getElem?_eq_getElem hjl)
      rw [hj] at h1
      cases h1
      have hmm := List.getElem_mem hjl
      have := (SR1_cells h.mem (boxV_of_row (hrow _ hmm).1) h2).1.length
      rw [(hrow _ hmm).2] at this
      simpa using this.symm
    have hparts : (parts.map fun (i, x) => (i, a.eval x)).toList = ((vs.zipIdx 0).map fun x => (x.2, x.1)) := by
      rw [Array.toList_map]
      have := zip_parts _ 0 hidx'
      rw [show (parts.toList.map fun p => (p.1, a.eval p.2)).map (·.2) = vs by simp [vs]] at this
      exact this
    have hexec : ∀ w, (execOp a.eval o).run P w = (do pure (Next.value (← Instr.buildSlice t len (parts.map fun (i, x) => (i, a.eval x)))) : Sem Next).run P w := fun w => by simp only [execOp, ho]
    by_cases hl0 : len = 0
    · subst hl0
      have hps : ps = [] := List.eq_nil_of_length_eq_zero hlen
      have hpe : parts = #[] := by
        have : parts.toList = [] := by
          have := congrArg List.length hidx
          simp at this
          simpa using this
        exact Array.toList_eq_nil_iff.1 this
      have hrun := run_buildSlice0 (P := P) W t e ie hu hie
      rw [hps]
      refine eat_step h (W' := W.alloc (.cells #[] e)) (v := .slice (some ⟨W.heap.size, 0, none⟩) 0 0) (B := fun _ => False) rfl rfl rfl (by simp) (fun b hb _ => heap_alloc_old W _ hb) (.nil _ _ _) (fun b hb => hb.elim) ?_
      rw [hexec, Sem.run_bind]
      subst hpe
      simp only [Array.map_empty]
      rw [hrun]
      rfl
    · have hfill := Great.fill_whole hsz vs ((Array.range (len * tt.sz)).map (z.cells[· % z.cells.size]!)) hvsz (by simp [hvl])
      rw [← hparts, ← his] at hfill
      have hrun := run_buildSlice (P := P) W t e len _ _ ie z hu hie hzz (by rw [his]; exact Nat.not_lt.2 hsmall) (by rw [his]; intro e; rcases Nat.mul_eq_zero.1 e with e | e <;> omega) hfill
      have hcsz : (vs.flatMap fun v => v.cells.toList).toArray.size = len * tt.sz := by
        have : ∀ (vs : List Value), (∀ v ∈ vs, v.cells.size = tt.sz) → (vs.flatMap fun v => v.cells.toList).length = vs.length * tt.sz := by
          intro vs hv
          induction vs with
          | nil => simp
          | cons v vs ih =>
            rw [List.flatMap_cons, List.length_append, ih (fun u hu => hv u (List.mem_cons_of_mem _ hu)), List.length_cons, Nat.add_mul, Array.length_toList, hv v List.mem_cons_self]
            omega
        simpa [hvl] using this vs hvsz
      have hown := row_parts h.mem (T := ps.flatMap (eat1 s)) (ps := ps) (vs := vs) (sz := tt.sz) (b := W.heap.size) (c := len) (cs := (vs.flatMap fun v => v.cells.toList).toArray) (ty := e) rfl
          (heap_alloc_new W _) (Nat.le_refl _) hcsz (by omega) (by simp only [maxLen]; have : len ≤ len * tt.sz := Nat.le_mul_of_pos_right _ hsz; omega) hp hrow hnd
          (fun j i v hv hi => by
            have := Great.flat_get hsz vs hvsz (j * tt.sz + i)
            rw [show (j * tt.sz + i) / tt.sz = j by rw [Nat.mul_comm, Nat.mul_add_div hsz, Nat.div_eq_of_lt hi]; omega, show (j * tt.sz + i) % tt.sz = i by rw [Nat.mul_comm, Nat.mul_add_mod, Nat.mod_eq_of_lt hi], hv] at this
            simpa using this)
          (fun x hx => heap_alloc_old W _ hx)
      rw [hlen] at hown
      refine eat_step h (W' := W.alloc (.cells (vs.flatMap fun v => v.cells.toList).toArray e)) (v := .slice (some ⟨W.heap.size, 0, none⟩) len len) rfl rfl rfl (by simp) (fun b hb _ => heap_alloc_old W _ hb) hown (fun b hb => ?_) ?_
      · rcases hb with rfl | hb
        · exact .inr ⟨Nat.le_refl _, by simp⟩
        · exact .inl hb
      · rw [hexec, Sem.run_bind, hrun]
        rfl
theorem zL_ok {x : V} {v : Value} (h : zL x v) : SRL M W x v ∧ closeL s x = x ∧ eatL s x = [] := by
  cases x <;> first | exact ⟨h, rfl, rfl⟩ | (obtain ⟨rfl, rfl⟩ := h; exact ⟨⟨rfl, none, rfl⟩, rfl, rfl⟩) | exact h.elim
theorem zLs_ok : ∀ {xs : List V} {vs : List Value}, All2 zL xs vs → All2 (SRL M W) xs vs ∧ xs.map (closeL s) = xs ∧ xs.flatMap (eatL s) = []
  | [], [], _ => ⟨trivial, rfl, rfl⟩
  | x :: xs, v :: vs, h => by
    obtain ⟨h1, h2, h3⟩ := zL_ok (M := M) (W := W) (s := s) h.1
    obtain ⟨h4, h5, h6⟩ := zLs_ok h.2
    exact ⟨⟨h1, h4⟩, by rw [List.map_cons, h2, h5], by rw [List.flatMap_cons, h3, h6]; rfl⟩
theorem zR_ok {x : V} {v : Value} (h : zR x v) : SR1 M W x v ∧ onL1 (closeL s) x = x ∧ eat1 s x = [] := by
  by_cases ha : ∃ xs, x = .agg xs
  · obtain ⟨xs, rfl⟩ := ha
    obtain ⟨vs, rfl, ha⟩ := h
    obtain ⟨h1, h2, h3⟩ := zLs_ok (M := M) (W := W) (s := s) ha
    exact ⟨⟨vs, rfl, h1⟩, by simp only [onL1, h2], h3⟩
  · have e1 : zR x v = zL x v := by cases x <;> first | rfl | exact absurd ⟨_, rfl⟩ ha
    have e2 : onL1 (closeL s) x = closeL s x := by cases x <;> first | rfl | exact absurd ⟨_, rfl⟩ ha
    rw [e1] at h
    obtain ⟨h1, h2, h3⟩ := zL_ok (M := M) (W := W) (s := s) h
    rw [e2]
    exact ⟨SR1_of_L' h1, h2, by simp only [eat1, leaves_ne ha, List.flatMap_cons, List.flatMap_nil, List.append_nil]; exact h3⟩
theorem flatMap_replicate {α β : Type} (f : α → List β) (x : α) (h : f x = []) : ∀ k, (List.replicate k x).flatMap f = []
  | 0 => rfl
  | k + 1 => by rw [List.replicate_succ, List.flatMap_cons, h, flatMap_replicate f x h k]; rfl
theorem All2_replicate {α β : Type} {R : α → β → Prop} {x : α} {y : β} (h : R x y) : ∀ k, All2 R (List.replicate k x) (List.replicate k y)
  | 0 => trivial
  | k + 1 => ⟨h, All2_replicate h k⟩
theorem makeSlice_sound (sta : StaOK P E) (h : St n M W s a) {o : Oper} {t : TypeId} {x y : Operand} (ho : o.op = .makeSlice t x y) (hx : SR2 M W (opnd s x) (a.eval x)) (hy : SR2 M W (opnd s y) (a.eval y))
    (hc : (makeSliceR ((E.el t).bind E.ti) (opnd s x) (opnd s y) s).c) : Step P n M W a o (makeSliceR ((E.el t).bind E.ti) (opnd s x) (opnd s y) s) := by
  generalize opnd s x = xv at *
  generalize opnd s y = yv at *
  unfold makeSliceR at hc ⊢
  split at hc
  · rename_i tt k l k' c htt
    obtain ⟨⟨h0, hlc, hsz, hroom, hby⟩, hlz, hrz⟩ := hc
    rw [Option.bind_eq_some_iff] at htt
    obtain ⟨e, he, ht⟩ := htt
    have hu := sta.el t e he
    obtain ⟨ie, hie, his, hib, z, hzz, hzr⟩ := (sta.ti e tt ht).info
    obtain ⟨z1, z2, z3⟩ := zR_ok (M := M) (W := W) (s := s) hzr
    have ex : a.eval x = .int k l := hx
    have ey : a.eval y = .int k' c := hy
    have hzs : z.cells.size = tt.sz := by
      have := (SR1_cells h.mem (boxV_of_row hrz) z1).1.length
      rw [hlz] at this
      simpa using this.symm
    have hb1 : (ie.bytes : Int) * c ≤ 281474976710656 := by
      have h1 : ((c.toNat * tt.by_ : Nat) : Int) ≤ ((140737488355328 : Nat) : Int) := Int.ofNat_le.2 hby
      have h3 : (c.toNat : Int) = c := Int.toNat_of_nonneg (by omega)
      rw [Int.natCast_mul, h3, Int.mul_comm] at h1
      rw [hib]
      omega
    have hrun := run_make (P := P) W t e ie z hu hie hzz k k' l c h0 hlc hb1 (by omega)
    rw [his] at hrun
    have hll : l.toNat ≤ c.toNat := by omega
    have hrow := row_parts h.mem (T := []) (ps := List.replicate l.toNat tt.z) (vs := List.replicate l.toNat z) (sz := tt.sz) (b := W.heap.size) (c := c.toNat) (cs := madeCells z.cells (c.toNat * tt.sz)) (ty := e)
      (flatMap_replicate _ _ z3 _).symm (heap_alloc_new W (.cells (madeCells z.cells (c.toNat * tt.sz)) e)) (Nat.le_refl _) (size_madeCells _ _) (by simpa using hll) (by simp only [maxLen]; omega) (All2_replicate z1 _)
      (fun p hp => by rw [List.eq_of_mem_replicate hp]; exact ⟨hrz, hlz⟩) List.nodup_nil
      (fun j i v hv hi => by
        have hjl : j < l.toNat := by
          have := (List.getElem?_eq_some_iff.1 hv).1
          simpa using this
        have hv' : v = z := by
          rw [List.getElem?_replicate, if_pos hjl] at hv
          cases hv; rfl
        subst hv'
        have hlt : j * tt.sz + i < c.toNat * tt.sz := by
          have : (j + 1) * tt.sz ≤ c.toNat * tt.sz := Nat.mul_le_mul_right _ (by omega)
          rw [Nat.add_mul] at this
          omega
        have hi' : i < v.cells.size := by rw [hzs]; exact hi
        simp only [madeCells, Array.getElem?_map, Array.getElem?_range, hlt, if_true, Option.map_some, hzs]
        rw [show (j * tt.sz + i) % tt.sz = i by rw [Nat.mul_comm, Nat.mul_add_mod, Nat.mod_eq_of_lt hi]]
        simp [hi'])
      (fun x hx => heap_alloc_old W _ hx)
    rw [List.length_replicate, show (List.replicate l.toNat tt.z).map (onL1 (closeL s)) = List.replicate l.toNat tt.z by simp [z2]] at hrow
    refine eat_step h (T := []) (W' := W.alloc (.cells (madeCells z.cells (c.toNat * tt.sz)) e)) (v := .slice (some ⟨W.heap.size, 0, none⟩) l.toNat c.toNat) rfl rfl rfl (by simp) (fun b hb _ => heap_alloc_old W _ hb) hrow (fun b hb => ?_) ?_
    · rcases hb with rfl | ⟨t, ht, -⟩
      · exact .inr ⟨Nat.le_refl _, by simp⟩
      · cases ht
    · simp only [execOp, ho, ex, ey]
      rw [Sem.run_bind, hrun]
      rfl
  · exact hc.elim
end
end Go.TM
end
section
namespace Go.TM
open Go
section
variable {P : Program} {E : Env} {M : Mem} {W : World} {s : S} {n : Nat} {a : Act}
def flatU (u : Nat → Nat → Value) (m sz : Nat) : List Value := (List.range (m * sz)).map fun p => u (p / sz) (p % sz)
theorem flatU_length (u : Nat → Nat → Value) (m sz : Nat) : (flatU u m sz).length = m * sz := by simp [flatU]
theorem flatU_get {u : Nat → Nat → Value} {m sz j i : Nat} (hj : j < m) (hi : i < sz) : (flatU u m sz)[j * sz + i]? = some (u j i) := by
  have hlt : j * sz + i < m * sz := by
    have : (j + 1) * sz ≤ m * sz := Nat.mul_le_mul_right _ hj
    rw [Nat.add_mul] at this
    omega
  have h0 : 0 < sz := by omega
  unfold flatU
  rw [List.getElem?_map, List.getElem?_range hlt, Option.map_some]
  rw [show (j * sz + i) / sz = j by rw [Nat.mul_comm, Nat.mul_add_div h0, Nat.div_eq_of_lt hi]; omega, show (j * sz + i) % sz = i by rw [Nat.mul_comm, Nat.mul_add_mod, Nat.mod_eq_of_lt hi]]
theorem leafAt_some {xs : List V} {sz j i : Nat} (hs : ∀ e ∈ xs, (leaves e).length = sz) (hj : j < xs.length) (hi : i < sz) : ∃ l, leafAt xs j i = some l := by
  have := hs xs[j] (List.getElem_mem hj)
  refine ⟨(leaves xs[j])[i]'(by omega), ?_⟩
  simp [leafAt, List.getElem?_eq_getElem hj]
theorem leafAt_lt {xs : List V} {sz j i : Nat} {l : V} (hs : ∀ e ∈ xs, (leaves e).length = sz) (h : leafAt xs j i = some l) : j < xs.length ∧ i < sz := by
  unfold leafAt at h
  rw [Option.bind_eq_some_iff] at h
  obtain ⟨e, h1, h2⟩ := h
  have h3 := hs e (List.mem_of_getElem? h1)
  have h4 := (List.getElem?_eq_some_iff.1 h2).1
  exact ⟨(List.getElem?_eq_some_iff.1 h1).1, by omega⟩
theorem flatU_cells {xs : List V} {sz b o : Nat} {u : Nat → Nat → Value} (h0 : 0 < sz) (hs : ∀ e ∈ xs, (leaves e).length = sz) (hc : ∀ j i l, leafAt xs j i = some l → W.cell? ⟨b, o + j * sz + i, none⟩ = some (u j i)) :
    ∀ p v, (flatU u xs.length sz)[p]? = some v → W.cell? ((⟨b, o, none⟩ : Addr).add p) = some v := by
  intro p v hp
  have hlt : p < xs.length * sz := by
    have := (List.getElem?_eq_some_iff.1 hp).1
    rwa [flatU_length] at this
  have hj : p / sz < xs.length := (Nat.div_lt_iff_lt_mul h0).2 hlt
  have hi : p % sz < sz := Nat.mod_lt _ h0
  obtain ⟨l, hl⟩ := leafAt_some hs hj hi
  have h1 := hc _ _ l hl
  have h2 : p / sz * sz + p % sz = p := by rw [Nat.mul_comm]; exact Nat.div_add_mod p sz
  have h3 := flatU_get (u := u) hj hi
  rw [h2, hp] at h3
  rw [add_eq, Option.some.inj h3, ← h1]
  congr 2
  omega
structure SrcOK (M : Mem) (W : World) (sz : Nat) (ys : List V) (T : List Nat) (v : Value) : Prop where
  go : ∃ A c, v = .slice A ys.length c ∧ (ys ≠ [] → ∃ b o, A = some ⟨b, o, none⟩) ∧ ∃ (u : Nat → Nat → Value) (Bs : Nat → Nat → Nat → Prop),
    (∀ b o, A = some ⟨b, o, none⟩ → ∀ j i l, leafAt ys j i = some l → W.cell? ⟨b, o + j * sz + i, none⟩ = some (u j i)) ∧
    (∀ j i l, leafAt ys j i = some l → LR W M.F (Bs j i) l (u j i)) ∧
    (∀ j i x, Bs j i x → ∃ t ∈ T, M.ω x = some (.tok t)) ∧ (∀ j i j' i' x, Bs j i x → Bs j' i' x → j = j' ∧ i = i')
theorem vwE_leaves (y : V) : leaves (vwE y) = (leaves y).map vw := by
  by_cases hc : ∃ xs, y = .agg xs
  · obtain ⟨xs, rfl⟩ := hc
    rfl
  · have e1 : vwE y = vw y := by cases y <;> first | rfl | exact absurd ⟨_, rfl⟩ hc
    rw [e1, leaves_ne hc]
    refine leaves_ne ?_
    rintro ⟨xs, e⟩
    cases y <;> simp [vw] at e
    exact hc ⟨_, rfl⟩
theorem leafAt_vwE {ys : List V} {j i : Nat} {l : V} (h : leafAt (ys.map vwE) j i = some l) : ∃ l0, leafAt ys j i = some l0 ∧ l = vw l0 := by
  unfold leafAt at *
  rw [List.getElem?_map] at h
  cases he : ys[j]? with
  | none => simp [he] at h
  | some e =>
    simp only [he, Option.map_some, Option.bind_some, vwE_leaves, List.getElem?_map, Option.map_eq_some_iff] at h
    obtain ⟨l0, h1, h2⟩ := h
    exact ⟨l0, by simpa using h1, h2.symm⟩
theorem LR_vw {F S : Nat → Prop} {l : V} {u : Value} (h : FR W F (vw l) u) : LR W F S (vw l) u :=
  LR.of (fun _ => h) fun z ys e => by cases l <;> simp [vw] at e
theorem src_lst {sz : Nat} {ys : List V} {v : Value} (hf : FR W M.F (.lst ys) v) (hs : ∀ y ∈ ys.map vwE, (leaves y).length = sz) : SrcOK M W sz (ys.map vwE) [] v := by
  have hlen : (ys.map vwE).length = ys.length := by simp
  cases hf with
  | nil A c => exact ⟨A, c, rfl, fun h => absurd rfl h, fun _ _ => undef, fun _ _ _ => False, fun _ _ _ _ _ _ h => by simp [leafAt] at h, fun _ _ _ h => by simp [leafAt] at h, fun _ _ _ h => h.elim, fun _ _ _ _ _ h => h.elim⟩
  | lst _ b o c sz' u hF hn hm hs' hc hl =>
    refine ⟨some ⟨b, o, none⟩, c, by rw [hlen], fun _ => ⟨b, o, rfl⟩, u, fun _ _ _ => False, fun b' o' e j i l h => ?_, fun j i l h => ?_, fun _ _ _ h => h.elim, fun _ _ _ _ _ h => h.elim⟩
    · cases e
      obtain ⟨l0, h1, rfl⟩ := leafAt_vwE h
      have hj := (leafAt_lt hs h).1
      rw [hlen] at hj
      have e1 : sz' = sz := by
        rw [← hs' ys[j] (List.getElem_mem hj), ← hs (vwE ys[j]) (List.mem_map.2 ⟨_, List.getElem_mem hj, rfl⟩), vwE_leaves, List.length_map]
      subst e1
      exact hc j i l0 h1
    · obtain ⟨l0, h1, rfl⟩ := leafAt_vwE h
      exact LR_vw (hl j i l0 h1)
theorem src_own {sz : Nat} {t z : Nat} {ys : List V} (hm : MemOK M W s) (hR : s.R t = some ⟨z, ys, true⟩) (hs : ∀ y ∈ ys, (leaves y).length = sz) : SrcOK M W sz ys [t] (M.ρ t) := by
  have hsz := (hm.row t _ hR).2.sizes
  rcases (hm.row t _ hR).2 with ⟨-, B, h1, h2, -⟩ | ⟨hw, -⟩
  · generalize M.ρ t = v at h1
    cases h1 with
    | nil B sz A => exact ⟨A, 0, rfl, fun h => absurd rfl h, fun _ _ => undef, fun _ _ _ => False, fun _ _ _ _ _ _ h => by simp [leafAt] at h, fun _ _ _ h => by simp [leafAt] at h, fun _ _ _ h => h.elim, fun _ _ _ _ _ h => h.elim⟩
    | row _ _ _ b o c cs ty u Bs hB hBs hd hb hn hmx hcs hs' hc hl hN =>
      refine ⟨some ⟨b, o, none⟩, c, rfl, fun _ => ⟨b, o, rfl⟩, u, Bs, fun b' o' e j i l h => ?_, fun j i l h => ?_, fun j i x hx => ⟨t, by simp, h2 x (hBs j i x hx).1⟩, hd⟩
      · cases e
        have hj := (leafAt_lt hs h).1
        have e1 : z = sz := (hsz ys[j] (List.getElem_mem hj)).symm.trans (hs ys[j] (List.getElem_mem hj))
        subst e1
        rw [cell_of hb]
        exact hc j i l h
      · exact LR.of (fun hne => hl j i l h hne) fun z' ys' e => by subst e; exact hN j i z' ys' h
  · cases hw
theorem src_ok (h : St n M W s a) {sz : Nat} {y : V} {v : Value} {ys : List V} {T : List Nat} (hy : SR2 M W y v) (hsrc : srcR y s = some (ys, T)) (hs : ∀ y ∈ ys, (leaves y).length = sz) :
    SrcOK M W sz ys T v ∧ (∀ t ∈ T, y = .own t) := by
  unfold srcR at hsrc
  split at hsrc
  · rename_i t
    obtain ⟨-, rfl⟩ := hy
    split at hsrc
    · rename_i z ys' hR
      cases hsrc
      exact ⟨src_own h.mem hR hs, by simp⟩
    · rename_i z ys' hR
      cases hsrc
      rcases (h.mem.row t _ hR).2 with ⟨hw, -⟩ | ⟨-, h1, -⟩
      · cases hw
      · exact ⟨src_lst h1 hs, by simp⟩
    · cases hsrc
  · cases hsrc
    exact ⟨src_lst (show FR W M.F (.lst _) v from hy) hs, by simp⟩
  · cases hsrc
    obtain ⟨-, A, rfl⟩ := hy
    exact ⟨⟨A, 0, rfl, fun h => absurd rfl h, fun _ _ => undef, fun _ _ _ => False, fun _ _ _ _ _ _ h => by simp [leafAt] at h, fun _ _ _ h => by simp [leafAt] at h, fun _ _ _ h => h.elim, fun _ _ _ _ _ h => h.elim⟩, by simp⟩
  · cases hsrc
theorem SrcOK.src {sz : Nat} {ys : List V} {T : List Nat} {v : Value} (h : SrcOK M W sz ys T v) (h0 : 0 < sz) (hs : ∀ y ∈ ys, (leaves y).length = sz) {t e : TypeId} (hu : P.underlying t = some (.slice e)) :
    ∃ (u : Nat → Nat → Value) (Bs : Nat → Nat → Nat → Prop), Src P sz t v ys.length (flatU u ys.length sz) W ∧ (∀ j i l, leafAt ys j i = some l → LR W M.F (Bs j i) l (u j i)) ∧
      (∀ j i x, Bs j i x → ∃ t ∈ T, M.ω x = some (.tok t)) ∧ (∀ j i j' i' x, Bs j i x → Bs j' i' x → j = j' ∧ i = i') := by
  obtain ⟨A, c, rfl, hA, u, Bs, h1, h2, h3, h4⟩ := h.go
  refine ⟨u, Bs, ?_, h2, h3, h4⟩
  have hone : ∀ w ∈ flatU u ys.length sz, w.oneCell' = true := by
    intro w hw
    obtain ⟨p, hp⟩ := List.mem_iff_getElem?.1 hw
    have hlt : p < ys.length * sz := by
      have := (List.getElem?_eq_some_iff.1 hp).1
      rwa [flatU_length] at this
    have hj : p / sz < ys.length := (Nat.div_lt_iff_lt_mul h0).2 hlt
    have hi : p % sz < sz := Nat.mod_lt _ h0
    obtain ⟨l, hl⟩ := leafAt_some hs hj hi
    have h5 := flatU_get (u := u) hj hi
    rw [show p / sz * sz + p % sz = p by rw [Nat.mul_comm]; exact Nat.div_add_mod p sz, hp] at h5
    rw [Option.some.inj h5]
    exact (h2 _ _ l hl).one
  by_cases hn : ys = []
  · subst hn
    have e0 : flatU u ([] : List V).length sz = [] := by simp [flatU]
    rw [e0]
    cases A with
    | none => exact Src.ofNil W hu c
    | some A =>
      refine Src.ofSlice W hu A 0 c [] (by simp) (fun j u h => by simp at h) (fun u hu => by cases hu)
  · obtain ⟨b, o, rfl⟩ := hA hn
    exact Src.ofSlice W hu _ _ c _ (flatU_length _ _ _) (flatU_cells h0 hs (h1 b o rfl)) hone
theorem run_append_row (w : World) (t tx ty e : TypeId) (i : TypeInfo) (ht : P.underlying t = some (.slice e)) (hi : P.info? e = some i) (b off sLen sCap : Nat) (x : Value) (m : Nat) (news : List Value) (hs : Src P i.size tx x m news w)
    (cur : Array Value) (et : TypeId) (hg : w.heap[b]? = some (.cells cur et (0, 0))) (hroom : sLen + m ≤ sCap) (hfit : off + sLen * i.size + news.length ≤ cur.size) :
    (Builtin.append_ #[t, tx] ty #[.slice (some ⟨b, off, none⟩) sLen sCap, x]).run P w =
      .ok (.slice (some ⟨b, off, none⟩) (sLen + m) sCap) (w.setRow b (cur.toList.take (off + sLen * i.size) ++ news ++ cur.toList.drop (off + sLen * i.size + news.length)).toArray) := by
  have hst := run_storeCells_at P b (off + sLen * i.size) et news 0 cur w hg (by simpa using hfit) hs.one
  simp only [Nat.add_zero] at hst
  rcases hs.kind with ⟨e', hk⟩ | hk <;> simp [Builtin.append_, run_underlying ht, run_underlying hk, sizeOf, typeInfo, hi, hs.len, hroom, hs.cells, Addr.add_lit, hst]
theorem run_append_none (w : World) (t ty e : TypeId) (i : TypeInfo) (ht : P.underlying t = some (.slice e)) (hi : P.info? e = some i) (A B : Option Addr) (c : Nat) :
    (Builtin.append_ #[t, t] ty #[.slice A 0 0, .slice B 0 c]).run P w = .ok (.slice A 0 0) w := by
  have hf : (Builtin.firstCells i.size 0 (.slice B 0 c)).run P w = .ok #[] w := by
    cases B with
    | none => exact run_firstCells_none w i.size 0 0 c
    | some B => exact run_firstCells_some w i.size 0 B 0 c [] (by simp) (fun j v h => by simp at h)
  cases A with
  | none => simp [Builtin.append_, run_underlying ht, sizeOf, typeInfo, hi, Builtin.lenOf, hf]
  | some A => simp [Builtin.append_, run_underlying ht, sizeOf, typeInfo, hi, Builtin.lenOf, hf, storeCells]
theorem leafAt_append {xs ys : List V} {j i : Nat} : leafAt (xs ++ ys) j i = if j < xs.length then leafAt xs j i else leafAt ys (j - xs.length) i := by
  unfold leafAt
  split
  · rename_i h; rw [List.getElem?_append_left h]
  · rename_i h; rw [List.getElem?_append_right (by omega)]
structure DstOK (M : Mem) (W : World) (sz : Nat) (xs : List V) (T : List Nat) (v : Value) : Prop where
  go : (xs = [] ∧ ∃ A, v = .slice A 0 0) ∨ (∃ b o c cs ty, v = .slice (some ⟨b, o, none⟩) xs.length c ∧ W.heap[b]? = some (.cells cs ty (0, 0)) ∧ xs.length ≤ c ∧ c ≤ maxLen ∧ cs.size = o + c * sz ∧ (∃ t ∈ T, M.ω b = some (.tok t)) ∧
    ∃ (u : Nat → Nat → Value) (Bs : Nat → Nat → Nat → Prop), (∀ j i l, leafAt xs j i = some l → cs[o + j * sz + i]? = some (u j i)) ∧ (∀ j i l, leafAt xs j i = some l → LR W M.F (Bs j i) l (u j i)) ∧
      (∀ j i x, Bs j i x → (∃ t ∈ T, M.ω x = some (.tok t)) ∧ x ≠ b) ∧ (∀ j i j' i' x, Bs j i x → Bs j' i' x → j = j' ∧ i = i'))
theorem dst_own {t z : Nat} {xs : List V} (hm : MemOK M W s) (hR : s.R t = some ⟨z, xs, true⟩) : DstOK M W z xs [t] (M.ρ t) := by
  rcases (hm.row t _ hR).2 with ⟨-, B, h1, h2, -⟩ | ⟨hw, -⟩
  · generalize M.ρ t = v at h1
    cases h1 with
    | nil B sz A => exact ⟨.inl ⟨rfl, A, rfl⟩⟩
    | row _ _ _ b o c cs ty u Bs hB hBs hd hb hn hmx hcs hs' hc hl hN =>
      exact ⟨.inr ⟨b, o, c, cs, ty, rfl, hb, hn, hmx, hcs, ⟨t, by simp, h2 b hB⟩, u, Bs, hc, fun j i l h => LR.of (fun hne => hl j i l h hne) fun z' ys' e => by subst e; exact hN j i z' ys' h,
        fun j i x hx => ⟨⟨t, by simp, h2 x (hBs j i x hx).1⟩, (hBs j i x hx).2⟩, hd⟩⟩
  · cases hw
theorem zcells {x : V} {v : Value} (h : zR x v) : v.cells.size = (leaves x).length := by
  by_cases ha : ∃ xs, x = .agg xs
  · obtain ⟨xs, rfl⟩ := ha
    obtain ⟨vs, rfl, ha⟩ := h
    simp only [Value.cells, leaves]
    simpa using ha.length.symm
  · have e1 : zR x v = zL x v := by cases x <;> first | rfl | exact absurd ⟨_, rfl⟩ ha
    rw [e1] at h
    rw [leaves_ne ha]
    cases x <;> first | (cases h; rfl) | (obtain ⟨rfl, rfl⟩ := h; rfl) | (have e : v = _ := h; subst e; rename_i hd; cases hd <;> rfl) | exact h.elim
theorem append_grown (hm : MemOK M W s) {W' : World} {e : TypeId} {sz c : Nat} {cs : Array Value} {xs ys : List V} {T1 T2 : List Nat} {u1 u2 : Nat → Nat → Value} {B1 B2 : Nat → Nat → Nat → Prop}
    (hb : W'.heap[W.heap.size]? = some (.cells cs e (0, 0))) (hold : ∀ x, x < W.heap.size → W'.heap[x]? = W.heap[x]?) (hcs : cs.size = c * sz) (hn : xs.length + ys.length ≤ c) (hmx : c ≤ maxLen)
    (hxs : ∀ y ∈ xs, (leaves y).length = sz) (hys : ∀ y ∈ ys, (leaves y).length = sz)
    (hc1 : ∀ j i, j < xs.length → i < sz → cs[j * sz + i]? = some (u1 j i)) (hc2 : ∀ j i, j < ys.length → i < sz → cs[(xs.length + j) * sz + i]? = some (u2 j i))
    (f2 : ∀ j i l, leafAt xs j i = some l → LR W M.F (B1 j i) l (u1 j i)) (f3 : ∀ j i x, B1 j i x → ∃ t ∈ T1, M.ω x = some (.tok t)) (f4 : ∀ j i j' i' x, B1 j i x → B1 j' i' x → j = j' ∧ i = i')
    (g1 : ∀ j i l, leafAt ys j i = some l → LR W M.F (B2 j i) l (u2 j i)) (g2 : ∀ j i x, B2 j i x → ∃ t ∈ T2, M.ω x = some (.tok t)) (g3 : ∀ j i j' i' x, B2 j i x → B2 j' i' x → j = j' ∧ i = i')
    (hd : ∀ t1 ∈ T1, t1 ∉ T2) :
    OwnN W' M.F (fun x => x = W.heap.size ∨ ∃ t ∈ T1 ++ T2, M.ω x = some (.tok t)) sz (.slice (some ⟨W.heap.size, 0, none⟩) (xs.length + ys.length) c) (xs ++ ys) := by
  have hlen : (xs ++ ys).length = xs.length + ys.length := by simp
  rw [← hlen]
  have clash : ∀ x, (∃ t ∈ T1, M.ω x = some (.tok t)) → ¬ ∃ t ∈ T2, M.ω x = some (.tok t) := by
    rintro x ⟨t, ht, h1⟩ ⟨t', ht', h2⟩
    rw [h1] at h2
    cases h2
    exact hd t ht ht'
  refine mkRow (Bs := fun j i x => if j < xs.length then B1 j i x else B2 (j - xs.length) i x) hb (by rw [hlen]; exact hn) hmx (by simpa using hcs) (fun e he => ?_) (fun j i l hl => ?_) (fun j i j' i' x h1 h2 => ?_) (fun j i x h1 => ?_) (.inl rfl)
  · rcases List.mem_append.1 he with he | he
    · exact hxs e he
    · exact hys e he
  · rw [leafAt_append] at hl
    by_cases hj : j < xs.length
    · rw [if_pos hj] at hl
      simp only [if_pos hj]
      have hi := (leafAt_lt hxs hl).2
      refine ⟨_, by rw [Nat.zero_add]; exact hc1 j i hj hi, (f2 j i l hl).mono (fun b hb => hold b (hm.frz b hb).2) (fun _ h => h) fun x hx => ⟨hx, ?_⟩⟩
      obtain ⟨t, -, h1⟩ := f3 j i x hx
      exact hold x (hm.lt x _ h1)
    · rw [if_neg hj] at hl
      simp only [if_neg hj]
      have hij := leafAt_lt hys hl
      have hcc := hc2 (j - xs.length) i hij.1 hij.2
      rw [show xs.length + (j - xs.length) = j by omega] at hcc
      refine ⟨_, by rw [Nat.zero_add]; exact hcc, (g1 _ i l hl).mono (fun b hb => hold b (hm.frz b hb).2) (fun _ h => h) fun x hx => ⟨hx, ?_⟩⟩
      obtain ⟨t, -, h1⟩ := g2 _ i x hx
      exact hold x (hm.lt x _ h1)
  · split at h1
    · split at h2
      · exact f4 _ _ _ _ x h1 h2
      · exact absurd (g2 _ _ x h2) (clash x (f3 _ _ x h1))
    · split at h2
      · exact absurd (g2 _ _ x h1) (clash x (f3 _ _ x h2))
      · obtain ⟨h3, h4⟩ := g3 _ _ _ _ x h1 h2
        exact ⟨by omega, h4⟩
  · have : ∃ t ∈ T1 ++ T2, M.ω x = some (.tok t) := by
      split at h1
      · obtain ⟨t, ht, h2⟩ := f3 _ _ x h1
        exact ⟨t, List.mem_append.2 (.inl ht), h2⟩
      · obtain ⟨t, ht, h2⟩ := g2 _ _ x h1
        exact ⟨t, List.mem_append.2 (.inr ht), h2⟩
    refine ⟨.inr this, ?_⟩
    rintro rfl
    obtain ⟨t, -, h2⟩ := this
    have := hm.lt _ _ h2
    omega
theorem append_core (sta : StaOK P E) (h : St n M W s a) {o : Oper} {t e : TypeId} {tt : TI} {xs ys : List V} {T1 T2 : List Nat} {vx vy : Value} {c0 : Prop} (hu : P.underlying t = some (.slice e)) (hti : TiOK P e tt)
    (hr : ∀ w, (execOp a.eval o).run P w = (do pure (Next.value (← Builtin.append_ #[t, t] o.type #[vx, vy])) : Sem Next).run P w)
    (hx : DstOK M W tt.sz xs T1 vx) (hy : SrcOK M W tt.sz ys T2 vy) (hxs : ∀ y ∈ xs, (leaves y).length = tt.sz) (hys : ∀ y ∈ ys, (leaves y).length = tt.sz) (hd : ∀ t1 ∈ T1, t1 ∉ T2) (hroom : room tt (xs.length + ys.length)) :
    Step P n M W a o (.st c0 (.own s.nt) ((s.drops (T1 ++ T2)).newR tt.sz (xs ++ ys))) := by
  obtain ⟨hsz, hbig, hby⟩ := hroom
  obtain ⟨ie, hie, his, hib, z, hzz, hzr⟩ := hti.info
  have hzs : z.cells.size = tt.sz := (zcells hzr).trans hti.zs
  obtain ⟨u2, Bs2, hsrc0, g1, g2, g3⟩ := hy.src hsz hys (P := P) hu
  have hsrc : Src P ie.size t vy ys.length (flatU u2 ys.length tt.sz) W := by rw [his]; exact hsrc0
  have grow : ∀ {A : Option Addr} {cap : Nat} {u1 : Nat → Nat → Value} {B1 : Nat → Nat → Nat → Prop}, vx = .slice A xs.length cap → (Builtin.firstCells ie.size xs.length (.slice A xs.length cap)).run P W.drew = .ok (flatU u1 xs.length tt.sz).toArray W.drew → cap < xs.length + ys.length →
      (∀ j i l, leafAt xs j i = some l → LR W M.F (B1 j i) l (u1 j i)) → (∀ j i x, B1 j i x → ∃ t ∈ T1, M.ω x = some (.tok t)) → (∀ j i j' i' x, B1 j i x → B1 j' i' x → j = j' ∧ i = i') → Step P n M W a o (.st c0 (.own s.nt) ((s.drops (T1 ++ T2)).newR tt.sz (xs ++ ys))) := by
    intro A cap u1 B1 hvx hold hlt f2 f3 f4
    subst hvx
    have hrun := run_append_grow_src W t t o.type e ie z hu hie hzz A xs.length cap _ hold vy ys.length _ hsrc hlt (by omega) (growslice_fits hlt (by rw [hib]; exact hby))
    have hcap := grownCap_ge W (xs.length + ys.length) cap e
    have hcm : grownCap W (xs.length + ys.length) cap e ≤ maxLen := grownCap_le_maxLen W _ _ e (by simp only [maxLen]; omega)
    have hrow := append_grown h.mem (W' := W.drew.alloc (.cells ((flatU u1 xs.length tt.sz ++ flatU u2 ys.length tt.sz).toArray ++ Builtin.zeroCells z.cells (grownCap W (xs.length + ys.length) cap e - (xs.length + ys.length))) e))
      (sz := tt.sz) (c := grownCap W (xs.length + ys.length) cap e) (u1 := u1) (u2 := u2) (B1 := B1) (B2 := Bs2) (heap_alloc_new W.drew _) (fun x hx => heap_alloc_old W.drew _ hx) (by
        simp only [Array.size_append, List.size_toArray, size_zeroCells, hzs, List.length_append, flatU_length, ← Nat.add_mul]
        congr 1
        omega) hcap hcm hxs hys (fun j i hj hi => by
        have h1 : j * tt.sz + i < (flatU u1 xs.length tt.sz).length := by
          rw [flatU_length]
          have : (j + 1) * tt.sz ≤ xs.length * tt.sz := Nat.mul_le_mul_right _ hj
          rw [Nat.add_mul] at this
          omega
        rw [Array.getElem?_append_left (by simp only [List.size_toArray, List.length_append]; omega), List.getElem?_toArray, List.getElem?_append_left h1]
        exact flatU_get hj hi) (fun j i hj hi => by
        have h1 : j * tt.sz + i < (flatU u2 ys.length tt.sz).length := by
          rw [flatU_length]
          have : (j + 1) * tt.sz ≤ ys.length * tt.sz := Nat.mul_le_mul_right _ hj
          rw [Nat.add_mul] at this
          omega
        have h2 : (xs.length + j) * tt.sz + i = (flatU u1 xs.length tt.sz).length + (j * tt.sz + i) := by rw [flatU_length, Nat.add_mul]; omega
        rw [h2, Array.getElem?_append_left (by simp only [List.size_toArray, List.length_append]; omega), List.getElem?_toArray, List.getElem?_append_right (by omega), Nat.add_sub_cancel_left]
        exact flatU_get hj hi) f2 f3 f4 g1 g2 g3 hd
    refine eat_step h (T := T1 ++ T2) (W' := W.drew.alloc _) rfl rfl rfl (by simp) (fun b hb _ => heap_alloc_old W.drew _ hb) hrow (fun b hb => ?_) ?_
    · rcases hb with rfl | hb
      · exact .inr ⟨Nat.le_refl _, by simp⟩
      · exact .inl hb
    · rw [hr, Sem.run_bind, hrun]
      rfl
  rcases hx.go with ⟨rfl, A, rfl⟩ | ⟨b, off, c, cs, ty, rfl, hb, hn, hmx, hcs, hTb, u1, Bs1, f1, f2, f3, f4⟩
  · by_cases hn : ys = []
    · subst hn
      obtain ⟨B, c, rfl, -⟩ := hy.go
      refine eat_step h (T := T1 ++ T2) (W' := W) (v := .slice A 0 0) (B := fun _ => False) rfl rfl rfl (Nat.le_refl _) (fun b _ _ => rfl) (.nil _ _ _) (fun b hb => hb.elim) ?_
      rw [hr, Sem.run_bind, List.length_nil, run_append_none W t _ e ie hu hie]
      rfl
    · have hpos : 0 < ys.length := List.length_pos_iff.2 hn
      refine grow (A := A) (cap := 0) (u1 := fun _ _ => undef) (B1 := fun _ _ _ => False) rfl ?_ (by simpa using hpos) (fun j i l h => by simp [leafAt] at h) (fun _ _ _ h => h.elim) (fun _ _ _ _ _ h => h.elim)
      have e0 : flatU (fun _ _ => undef) ([] : List V).length tt.sz = [] := by simp [flatU]
      rw [e0]
      cases A with
      | none => exact run_firstCells_none W.drew ie.size 0 0 0
      | some A => exact run_firstCells_some W.drew ie.size 0 A 0 0 [] (by simp) (fun j v h => by simp at h)
  · by_cases hfit : xs.length + ys.length ≤ c
    · have hsize : off + xs.length * ie.size + (flatU u2 ys.length tt.sz).length ≤ cs.size := by
        rw [flatU_length, hcs, his]
        have : (xs.length + ys.length) * tt.sz ≤ c * tt.sz := Nat.mul_le_mul_right _ hfit
        rw [Nat.add_mul] at this
        omega
      have hrun := run_append_row W t t o.type e ie hu hie b off xs.length c vy ys.length _ hsrc cs ty hb hfit hsize
      rw [his] at hrun hsize
      generalize hcur : (cs.toList.take (off + xs.length * tt.sz) ++ flatU u2 ys.length tt.sz ++ cs.toList.drop (off + xs.length * tt.sz + (flatU u2 ys.length tt.sz).length)).toArray = cur at hrun
      have hblt : b < W.heap.size := (Array.getElem?_eq_some_iff.1 hb).1
      have hW' : (W.setRow b cur).heap[b]? = some (.cells cur ty (0, 0)) := setRow_heap W b cs cur ty (0, 0) hb
      obtain ⟨tb, htb, hωb⟩ := hTb
      have htk : (cs.toList.take (off + xs.length * tt.sz)).length = off + xs.length * tt.sz := by
        rw [List.length_take]
        have : cs.toList.length = cs.size := Array.length_toList
        omega
      have clash : ∀ x, (∃ t ∈ T1, M.ω x = some (.tok t)) → ¬ ∃ t ∈ T2, M.ω x = some (.tok t) := by
        rintro x ⟨t, ht, h1⟩ ⟨t', ht', h2⟩
        rw [h1] at h2
        cases h2
        exact hd t ht ht'
      have hbF : ∀ x, M.F x → x ≠ b := fun x hFx e => by
        rw [e] at hFx
        rw [(h.mem.frz _ hFx).1] at hωb
        cases hωb
      have hrow : OwnN (W.setRow b cur) M.F (fun x => ∃ t ∈ T1 ++ T2, M.ω x = some (.tok t)) tt.sz (.slice (some ⟨b, off, none⟩) (xs ++ ys).length c) (xs ++ ys) := by
        refine mkRow (Bs := fun j i x => if j < xs.length then Bs1 j i x else Bs2 (j - xs.length) i x) hW' (by simpa using hfit) hmx ?_ (fun e he => ?_) (fun j i l hl => ?_) (fun j i j' i' x h1 h2 => ?_) (fun j i x h1 => ?_) ⟨tb, List.mem_append.2 (.inl htb), hωb⟩
        · rw [← hcur, ← hcs]
          simp only [List.size_toArray, List.length_append, htk, List.length_drop, Array.length_toList]
          omega
        · rcases List.mem_append.1 he with he | he
          · exact hxs e he
          · exact hys e he
        · rw [leafAt_append] at hl
          by_cases hj : j < xs.length
          · rw [if_pos hj] at hl
            simp only [if_pos hj]
            have hi := (leafAt_lt hxs hl).2
            have hlt : off + j * tt.sz + i < off + xs.length * tt.sz := by
              have : (j + 1) * tt.sz ≤ xs.length * tt.sz := Nat.mul_le_mul_right _ hj
              rw [Nat.add_mul] at this
              omega
            refine ⟨u1 j i, ?_, (f2 j i l hl).mono (fun x hx => setRow_other W b x _ (hbF x hx)) (fun _ h => h) fun x hx => ⟨hx, setRow_other W b x _ (f3 j i x hx).2⟩⟩
            rw [← hcur, List.getElem?_toArray, List.append_assoc, List.getElem?_append_left (by rw [htk]; exact hlt), List.getElem?_take_of_lt hlt, Array.getElem?_toList]
            exact f1 j i l hl
          · rw [if_neg hj] at hl
            simp only [if_neg hj]
            have hij := leafAt_lt hys hl
            refine ⟨u2 (j - xs.length) i, ?_, (g1 _ i l hl).mono (fun x hx => setRow_other W b x _ (hbF x hx)) (fun _ h => h) fun x hxB => ⟨hxB, setRow_other W b x _ ?_⟩⟩
            · have h1 : off + j * tt.sz + i = (off + xs.length * tt.sz) + ((j - xs.length) * tt.sz + i) := by
                have : j * tt.sz = xs.length * tt.sz + (j - xs.length) * tt.sz := by rw [← Nat.add_mul]; congr 1; omega
                omega
              have h2 : (j - xs.length) * tt.sz + i < (flatU u2 ys.length tt.sz).length := by
                rw [flatU_length]
                have : (j - xs.length + 1) * tt.sz ≤ ys.length * tt.sz := Nat.mul_le_mul_right _ hij.1
                rw [Nat.add_mul] at this
                omega
              rw [← hcur, List.getElem?_toArray, List.append_assoc, h1, List.getElem?_append_right (by rw [htk]; omega), htk, Nat.add_sub_cancel_left, List.getElem?_append_left h2]
              exact flatU_get hij.1 hij.2
            · intro e
              rw [e] at hxB
              exact clash _ ⟨tb, htb, hωb⟩ (g2 _ i _ hxB)
        · split at h1
          · split at h2
            · exact f4 _ _ _ _ x h1 h2
            · exact absurd (g2 _ _ x h2) (clash x (f3 _ _ x h1).1)
          · split at h2
            · exact absurd (g2 _ _ x h1) (clash x (f3 _ _ x h2).1)
            · obtain ⟨h3, h4⟩ := g3 _ _ _ _ x h1 h2
              exact ⟨by omega, h4⟩
        · split at h1
          · obtain ⟨⟨t', ht', h2⟩, h3⟩ := f3 _ _ x h1
            exact ⟨⟨t', List.mem_append.2 (.inl ht'), h2⟩, h3⟩
          · obtain ⟨t', ht', h2⟩ := g2 _ _ x h1
            refine ⟨⟨t', List.mem_append.2 (.inr ht'), h2⟩, ?_⟩
            rintro rfl
            exact clash _ ⟨tb, htb, hωb⟩ ⟨t', ht', h2⟩
      rw [List.length_append] at hrow
      refine eat_step h (T := T1 ++ T2) (W' := W.setRow b cur) rfl rfl rfl (by simp) (fun x hx hne => setRow_other W b x _ ?_) hrow (fun x hx => .inl hx) ?_
      · rintro rfl
        exact hne tb (List.mem_append.2 (.inl htb)) hωb
      · rw [hr, Sem.run_bind, hrun]
        rfl
    · refine grow (A := some ⟨b, off, none⟩) (cap := c) (u1 := u1) (B1 := Bs1) rfl ?_ (by omega) f2 (fun j i x hx => (f3 j i x hx).1) f4
      refine run_firstCells_some W.drew ie.size xs.length _ _ _ _ (by rw [flatU_length, his]) (fun p v hp => ?_)
      have := flatU_cells (W := W) (b := b) (o := off) hsz hxs (fun j i l hl => by rw [cell_of hb]; exact f1 j i l hl) p v hp
      exact this
theorem append_sound (sta : StaOK P E) (h : St n M W s a) {o : Oper} {t : TypeId} {x y : V} {vx vy : Value}
    (hr : ∀ w, (execOp a.eval o).run P w = (do pure (Next.value (← Builtin.append_ #[t, t] o.type #[vx, vy])) : Sem Next).run P w) (hx : SR2 M W x vx) (hy : SR2 M W y vy)
    (hc : (appendR ((E.el t).bind E.ti) x y s).c) : Step P n M W a o (appendR ((E.el t).bind E.ti) x y s) := by
  unfold appendR at hc ⊢
  split at hc
  · rename_i tt t1 ys T htt hsrc
    rw [Option.bind_eq_some_iff] at htt
    obtain ⟨e, he, ht⟩ := htt
    split at hc
    · rename_i z xs hR
      obtain ⟨h1, h2, h3, h4⟩ := hc
      subst h2
      obtain ⟨hs1, hs2⟩ := src_ok h hy hsrc h4
      obtain ⟨-, rfl⟩ := hx
      have hxs := (h.mem.row _ _ hR).2.sizes
      have := append_core (c0 := t1 ∉ T ∧ tt.sz = tt.sz ∧ room tt (xs.length + ys.length) ∧ ∀ y ∈ ys, (leaves y).length = tt.sz) sta h (sta.el t e he) (sta.ti e tt ht) hr (dst_own h.mem hR) hs1 hxs h4 (fun t' ht' => by
        simp only [List.mem_singleton] at ht'
        subst ht'
        exact h1) h3
      simpa only [hR, List.singleton_append] using this
    · exact hc.elim
  · rename_i tt ys T htt hsrc
    rw [Option.bind_eq_some_iff] at htt
    obtain ⟨e, he, ht⟩ := htt
    obtain ⟨h3, h4⟩ := hc
    obtain ⟨hs1, hs2⟩ := src_ok h hy hsrc h4
    obtain ⟨-, A, rfl⟩ := hx
    have := append_core (c0 := room tt ys.length ∧ ∀ y ∈ ys, (leaves y).length = tt.sz) (xs := []) (T1 := []) sta h (sta.el t e he) (sta.ti e tt ht) hr ⟨.inl ⟨rfl, A, rfl⟩⟩ hs1 (by simp) h4 (fun t' ht' => by cases ht') (by simpa using h3)
    simpa only [List.nil_append] using this
  · exact hc.elim
end
end Go.TM
end
section
namespace Go.TM
open Go
section
variable {P : Program} {E : Env} {M : Mem} {W : World} {s : S} {n : Nat} {a : Act}
def stored (cs : Array Value) (p : Nat) (news : List Value) : Array Value := (cs.toList.take p ++ news ++ cs.toList.drop (p + news.length)).toArray
theorem stored_size {cs : Array Value} {p : Nat} {news : List Value} (h : p + news.length ≤ cs.size) : (stored cs p news).size = cs.size := by
  have : cs.toList.length = cs.size := Array.length_toList
  simp only [stored, List.size_toArray, List.length_append, List.length_take, List.length_drop]
  omega
theorem stored_get {cs : Array Value} {p : Nat} {news : List Value} (h : p + news.length ≤ cs.size) (k : Nat) : (stored cs p news)[k]? = if p ≤ k ∧ k < p + news.length then news[k - p]? else cs[k]? := by
  have hl : cs.toList.length = cs.size := Array.length_toList
  have htk : (cs.toList.take p).length = p := by rw [List.length_take]; omega
  simp only [stored, List.getElem?_toArray]
  by_cases h1 : k < p
  · rw [if_neg (by omega), List.append_assoc, List.getElem?_append_left (by omega), List.getElem?_take_of_lt h1, Array.getElem?_toList]
  · by_cases h2 : k < p + news.length
    · rw [if_pos ⟨by omega, h2⟩, List.append_assoc, List.getElem?_append_right (by omega), htk, List.getElem?_append_left (by omega)]
    · rw [if_neg (by omega), List.getElem?_append_right (by simp only [List.length_append]; omega), List.length_append, htk, List.getElem?_drop, Array.getElem?_toList]
      congr 1
      omega
theorem run_storeVar_at (w : World) (b o : Nat) (t ty : TypeId) (cur : Array Value) (v : Value) (hg : w.heap[b]? = some (.cells cur ty (0, 0))) {tt : TI} (hti : TiOK P t tt) (hsz : v.cells.toList.length = tt.sz) (hfit : o + tt.sz ≤ cur.size) (h1 : ∀ u ∈ v.cells.toList, u.oneCell' = true) :
    (Instr.storeAt t (.pointer (some ⟨b, o, none⟩)) v).run P w = .ok () (w.setRow b (stored cur o v.cells.toList)) := by
  have hst := run_storeCells_at P b o ty v.cells.toList 0 cur w hg (by simpa [hsz] using hfit) h1
  simp only [Nat.add_zero] at hst
  have hs2 : v.cells.size = tt.sz := by rw [← hsz]; simp
  unfold Instr.storeAt
  simp only [Instr.sureAddr, Sem.run_bind, Sem.run_pure, Result.andThen_ok]
  unfold storeVar
  rw [Sem.run_bind, hti.size]
  simp only [Result.andThen, hs2]
  rw [if_neg (by simp)]
  exact hst
theorem leafAt_put {xs : List V} {i off : Nat} {v : V} (hi : i < xs.length) (hoff : off + (leaves v).length ≤ (leaves (xs.getD i .bad)).length) (hv : 0 < (leaves v).length) (j k : Nat) :
    leafAt (xs.set i (putAt (xs.getD i .bad) off v)) j k = if j = i ∧ off ≤ k ∧ k < off + (leaves v).length then (leaves v)[k - off]? else leafAt xs j k := by
  have hg : xs.getD i .bad = xs[i] := by simp [List.getD, List.getElem?_eq_getElem hi]
  unfold leafAt
  by_cases hj : j = i
  · subst hj
    rw [List.getElem?_set_self hi, List.getElem?_eq_getElem hi]
    simp only [Option.bind_some, true_and]
    rw [putAt_leaves hoff hv, hg]
    rw [hg] at hoff
    by_cases h1 : k < off
    · rw [if_neg (by omega), List.append_assoc, List.getElem?_append_left (by simp; omega), List.getElem?_take_of_lt h1]
    · by_cases h2 : k < off + (leaves v).length
      · rw [if_pos ⟨by omega, h2⟩, List.append_assoc, List.getElem?_append_right (by simp; omega), List.length_take, Nat.min_eq_left (by omega), List.getElem?_append_left (by omega)]
      · rw [if_neg (by omega), List.getElem?_append_right (by simp; omega), List.length_append, List.length_take, Nat.min_eq_left (by omega), List.getElem?_drop]
        congr 1
        omega
  · rw [List.getElem?_set_ne (by omega), if_neg (by omega)]
theorem put_sizes {xs : List V} {i off z : Nat} {v : V} (hi : i < xs.length) (hoff : off + (leaves v).length ≤ (leaves (xs.getD i .bad)).length) (hv : 0 < (leaves v).length) (hs : ∀ e ∈ xs, (leaves e).length = z) :
    ∀ e ∈ xs.set i (putAt (xs.getD i .bad) off v), (leaves e).length = z := by
  intro e he
  have hg : xs.getD i .bad = xs[i] := by simp [List.getD, List.getElem?_eq_getElem hi]
  rcases List.mem_or_eq_of_mem_set he with he | rfl
  · exact hs e he
  · rw [putAt_leaves hoff hv]
    rw [hg] at hoff ⊢
    have := hs _ (List.getElem_mem hi)
    simp only [List.length_append, List.length_take, List.length_drop]
    omega
theorem own_store {F B : Nat → Prop} {z b o m c : Nat} {v : Value} {ys : List V} (ho : OwnN W F B z v ys) (hv : v = .slice (some ⟨b, o, none⟩) m c) (hFb : ∀ x, F x → x ≠ b) {j off : Nat} {x : V} {news : List Value} (hj : j < ys.length) (hlen : (leaves x).length = news.length) (h0 : 0 < news.length) (hoff : off + news.length ≤ z)
    {Bn : Nat → Nat → Prop} (hx : ∀ k l u, (leaves x)[k]? = some l → news[k]? = some u → LR W F (Bn k) l u) (hBn : ∀ k y, Bn k y → ¬ B y) (hBd : ∀ k k' y, Bn k y → Bn k' y → k = k') :
    ∃ cs ty, W.heap[b]? = some (.cells cs ty (0, 0)) ∧ B b ∧ o + j * z + off + news.length ≤ cs.size ∧
      OwnN (W.setRow b (stored cs (o + j * z + off) news)) F (fun y => B y ∨ ∃ k, Bn k y) z v (ys.set j (putAt (ys.getD j .bad) off x)) ∧
      (∀ k u, news[k]? = some u → (W.setRow b (stored cs (o + j * z + off) news)).cell? ⟨b, o + j * z + (off + k), none⟩ = some u) ∧
      ∀ j' k l, leafAt ys j' k = some l → ¬ (j' = j ∧ off ≤ k ∧ k < off + news.length) → (W.setRow b (stored cs (o + j * z + off) news)).cell? ⟨b, o + j' * z + k, none⟩ = W.cell? ⟨b, o + j' * z + k, none⟩ := by
  cases ho with
  | nil => simp at hj
  | row _ _ _ _ _ _ cs ty u Bs hB hBs hd hb hn hm hcs hs hc hl hN =>
    cases hv
    have hg : ys.getD j .bad = ys[j] := by simp [List.getD, List.getElem?_eq_getElem hj]
    have hjz : (leaves (ys.getD j .bad)).length = z := by rw [hg]; exact hs _ (List.getElem_mem hj)
    have hfit : o + j * z + off + news.length ≤ cs.size := by
      have : (j + 1) * z ≤ c * z := Nat.mul_le_mul_right _ (by omega)
      rw [Nat.add_mul] at this
      omega
    have hW' : (W.setRow b (stored cs (o + j * z + off) news)).heap[b]? = some (.cells (stored cs (o + j * z + off) news) ty (0, 0)) := setRow_heap W b cs _ ty (0, 0) hb
    have hother : ∀ y, y ≠ b → (W.setRow b (stored cs (o + j * z + off) news)).heap[y]? = W.heap[y]? := fun y hy => setRow_other W b y _ hy
    have hput := leafAt_put (v := x) hj (by rw [hlen, hjz]; exact hoff) (by rw [hlen]; exact h0)
    have hout : ∀ j' k l, leafAt ys j' k = some l → ¬ (j' = j ∧ off ≤ k ∧ k < off + news.length) → ¬ (o + j * z + off ≤ o + j' * z + k ∧ o + j' * z + k < o + j * z + off + news.length) := by
      rintro j' k l hjk hr ⟨h3, h4⟩
      have hlt := leafAt_lt hs hjk
      apply hr
      have e : j' = j := by
        rcases Nat.lt_trichotomy j' j with h | h | h
        · have : (j' + 1) * z ≤ j * z := Nat.mul_le_mul_right _ h
          rw [Nat.add_mul] at this
          omega
        · exact h
        · have : (j + 1) * z ≤ j' * z := Nat.mul_le_mul_right _ h
          rw [Nat.add_mul] at this
          omega
      subst e
      exact ⟨rfl, by omega, by omega⟩
    refine ⟨cs, ty, hb, hB, hfit, ?_, fun k w hw => ?_, fun j' k l hjk hr => ?_⟩
    · have hl2 : (ys.set j (putAt (ys.getD j .bad) off x)).length = ys.length := by simp
      rw [← hl2]
      refine mkRow (Bs := fun j' k y => if j' = j ∧ off ≤ k ∧ k < off + (leaves x).length then Bn (k - off) y else Bs j' k y) hW' (by rw [hl2]; exact hn) hm ((stored_size hfit).trans hcs) (put_sizes hj (by rw [hlen, hjz]; exact hoff) (by rw [hlen]; exact h0) hs) (fun j' k l hjk => ?_) (fun j1 k1 j2 k2 y h1 h2 => ?_) (fun j' k y h1 => ?_) (.inl hB)
      · rw [hput] at hjk
        rw [stored_get hfit]
        by_cases hr : j' = j ∧ off ≤ k ∧ k < off + (leaves x).length
        · rw [if_pos hr] at hjk
          obtain ⟨rfl, h3, h4⟩ := hr
          rw [hlen] at h4
          have h5 : k - off < news.length := by omega
          rw [if_pos ⟨by omega, by omega⟩, show o + j' * z + k - (o + j' * z + off) = k - off by omega, List.getElem?_eq_getElem h5]
          refine ⟨_, rfl, ?_⟩
          simp only [true_and, h3, hlen, h4, and_self, if_true]
          exact (hx _ _ _ hjk (List.getElem?_eq_getElem h5)).mono (fun y hy => hother y (hFb y hy)) (fun _ h => h) fun y hy => ⟨hy, hother y fun e => hBn _ y hy (e ▸ hB)⟩
        · rw [if_neg hr] at hjk
          simp only [if_neg hr]
          rw [if_neg (hout j' k l hjk (by rw [← hlen]; exact hr))]
          refine ⟨u j' k, hc j' k l hjk, (LR.of (fun hne => hl j' k l hjk hne) fun z' ys' e => by subst e; exact hN j' k z' ys' hjk).mono (fun y hy => hother y (hFb y hy)) (fun _ h => h) fun y hy => ⟨hy, hother y (hBs j' k y hy).2⟩⟩
      · split at h1
        · rename_i r1
          split at h2
          · rename_i r2
            have := hBd _ _ y h1 h2
            exact ⟨r1.1.trans r2.1.symm, by omega⟩
          · exact absurd (hBs _ _ y h2).1 (hBn _ y h1)
        · split at h2
          · exact absurd (hBs _ _ y h1).1 (hBn _ y h2)
          · exact hd _ _ _ _ y h1 h2
      · split at h1
        · exact ⟨.inr ⟨_, h1⟩, fun e => hBn _ y h1 (e ▸ hB)⟩
        · exact ⟨.inl (hBs _ _ y h1).1, (hBs _ _ y h1).2⟩
    · have hk' : k < news.length := (List.getElem?_eq_some_iff.1 hw).1
      rw [cell_of hW', stored_get hfit, if_pos ⟨by omega, by omega⟩, show o + j * z + (off + k) - (o + j * z + off) = k by omega]
      exact hw
    · rw [cell_of hW', stored_get hfit, if_neg (hout j' k l hjk hr), cell_of hb]
end
end Go.TM
end
section
namespace Go.TM
open Go
section
variable {P : Program} {E : Env} {M : Mem} {W : World} {s : S} {n : Nat} {a : Act}
theorem wp_skipped {o : Oper} {W' : World} {K : Act → World → Prop} {Q : Exit → Act → World → Prop} (h : (execOp a.eval o).run P W = .ok .skip W') (hK : K (a.put o.dst undef) W') : o.wp P a W K Q := by
  unfold Oper.wp
  rw [h]
  exact hK
open Classical in
noncomputable def Mem.stow (M : Mem) (t i off m : Nat) (T : List Nat) (news : List Value) (kill : Bool) : Mem :=
  { M with ω := fun y => if ∃ t' ∈ T, M.ω y = some (.tok t') then some (.tok t) else M.ω y,
           σ := fun x j k => if kill = true ∧ x = t ∧ j = i ∧ off ≤ k ∧ k < off + m then news.getD (k - off) undef else M.σ x j k }
theorem stow_ω {t i off m : Nat} {T : List Nat} {news : List Value} {kill : Bool} {y : Nat} {l : Root} (h : (M.stow t i off m T news kill).ω y = some l) : M.ω y ≠ none ∧ ((∃ t' ∈ T, M.ω y = some (.tok t')) ∧ l = .tok t ∨ M.ω y = some l) := by
  simp only [Mem.stow] at h
  split at h
  · rename_i hex
    obtain ⟨t', h1, h2⟩ := hex
    exact ⟨by rw [h2]; simp, .inl ⟨⟨t', h1, h2⟩, by cases h; rfl⟩⟩
  · exact ⟨by rw [h]; simp, .inr h⟩
theorem stow_keepω {t i off m : Nat} {T : List Nat} {news : List Value} {kill : Bool} {y : Nat} {l : Root} (h : M.ω y = some l) (hT : ∀ t' ∈ T, l ≠ .tok t') : (M.stow t i off m T news kill).ω y = some l := by
  simp only [Mem.stow]
  rw [if_neg]
  · exact h
  · rintro ⟨t', h1, h2⟩
    rw [h] at h2
    cases h2
    exact hT t' h1 rfl
theorem stow_leafy {W' : World} {t i off m : Nat} {T : List Nat} {news : List Value} {kill : Bool} (hF : ∀ b, M.F b → W'.heap[b]? = W.heap[b]?) : Leafy (killL t i off m) M W (M.stow t i off m T news kill) W' := by
  intro x v h
  have hk : Keep M W { M with ω := (M.stow t i off m T news kill).ω } W' := ⟨fun _ h => h, hF, fun _ _ => rfl, fun _ _ _ _ => rfl, fun _ _ => rfl, Nat.le_refl _, Nat.le_refl _⟩
  have h' := hk.leaf h
  cases x with
  | sub t' i' o' =>
    simp only [killL]
    split
    · trivial
    · rename_i hne
      obtain ⟨h7, rfl⟩ := h
      refine ⟨h7, ?_⟩
      simp only [Mem.stow]
      rw [if_neg]
      rintro ⟨-, h1, h2, h3, h4⟩
      exact hne ⟨h1, h2, h3, h4⟩
  | sadr t' i' o' z j p =>
    simp only [killL]
    split
    · trivial
    · rename_i hne
      obtain ⟨h7, b, o2, m2, c, h8, rfl⟩ := h
      refine ⟨h7, b, o2, m2, c, ?_, rfl⟩
      simp only [Mem.stow]
      rw [if_neg]
      · exact h8
      · rintro ⟨-, h1, h2, h3, h4⟩
        exact hne ⟨h1, h2, h3, h4⟩
  | _ => exact h'
theorem stow_plain {W' : World} {t i off m : Nat} {T : List Nat} {news : List Value} (hF : ∀ b, M.F b → W'.heap[b]? = W.heap[b]?) : Keep M W (M.stow t i off m T news false) W' :=
  ⟨fun _ h => h, hF, fun _ _ => rfl, fun t' i' o' _ => (by simp only [Mem.stow]; rw [if_neg]; rintro ⟨h, -⟩; cases h), fun _ _ => rfl, Nat.le_refl _, Nat.le_refl _⟩
theorem eat_isRow {x : V} (h : (leaves x).any (isRowL s) = false) : eat1 s x = [] := by
  unfold eat1
  rw [List.flatMap_eq_nil_iff]
  intro l hl
  have h1 := List.any_eq_false.1 h l hl
  cases l <;> try rfl
  rename_i t
  simp only [isRowL, S.wrT, Bool.not_eq_true] at h1
  simp only [eatL]
  cases hr : s.R t with
  | none => rfl
  | some r =>
    obtain ⟨z, xs, wr⟩ := r
    rw [hr] at h1
    simp only at h1
    subst h1
    rfl
theorem close_isRow {l : V} {z : Nat} {ys : List V} (h : closeL s l = .inl z ys) : isRowL s l = true := by
  cases l with
  | own t =>
    simp only [closeL] at h
    simp only [isRowL, S.wrT]
    cases hr : s.R t with
    | none => rw [hr] at h; cases h
    | some r =>
      obtain ⟨z', xs', wr⟩ := r
      rw [hr] at h
      cases wr with
      | true => rfl
      | false => cases h
  | inl => rfl
  | fn f caps => cases caps <;> simp [closeL] at h
  | _ => simp [closeL] at h
theorem store_row (sta : StaOK P E) (h : St n M W s a) {o : Oper} {tid : TypeId} {tt : TI} {t sz i off z : Nat} {xs : List V} {x : V} {va vx : Value} (hti : TiOK P tid tt) (hr : ∀ w, (execOp a.eval o).run P w = (do Instr.storeAt tid va vx; pure .skip : Sem Next).run P w)
    (ha : SR2 M W (.oadr t sz i off) va) (hx : SR2 M W x vx) (hR : s.R t = some ⟨z, xs, true⟩) (c1 : rowV s x = true) (c2 : (leaves x).length = tt.sz) (c3 : off + tt.sz ≤ sz) (c4 : z = sz) (c5 : i < xs.length) (c6 : 0 < tt.sz) (c7 : (eat1 s x).Nodup) (c8 : t ∉ eat1 s x) {c0 : Prop} :
    Step P n M W a o (.st c0 (.tup []) (if (leaves x).any (isRowL s) = true then (((s.drops (eat1 s x)).setR t (some ⟨z, xs.set i (putAt (xs.getD i .bad) off (onL1 (closeL s) x)), true⟩)).mapE (killL t i off tt.sz))
         else s.setR t (some ⟨z, xs.set i (putAt (xs.getD i .bad) off (onL1 (closeL s) x)), true⟩))) := by
  subst c4
  intro K Q hK
  obtain ⟨ht0, b, p, m, c, hρ, rfl⟩ := ha
  have hx1 : SR1 M W x vx := SR1_of_2 hx (rowV_notTup c1)
  obtain ⟨hcl, hone⟩ := SR1_cells h.mem (boxV_of_row c1) hx1
  have hnl : vx.cells.toList.length = tt.sz := by rw [← hcl.length, c2]
  have hrow := (h.mem.row t _ hR).2
  rcases hrow with ⟨-, B, h1, h2, h3⟩ | ⟨hw, -⟩
  · simp only at h1 h3
    have hbB := (h1.head hρ (by intro e; rw [e] at c5; simp at c5)).1
    have hωb := h2 b hbB
    have hFb : ∀ y, M.F y → y ≠ b := fun y hy e => by rw [e] at hy; rw [(h.mem.frz b hy).1] at hωb; cases hωb
    have hlx : (leaves (onL1 (closeL s) x)).length = vx.cells.toList.length := by rw [onL1_leaves _ _ (closeL_noAgg s), List.length_map, c2, hnl]
    have hleaf : ∀ (k : Nat) (l : V) (u : Value), (leaves (onL1 (closeL s) x))[k]? = some l → vx.cells.toList[k]? = some u → ∃ l0 : V, (leaves x)[k]? = some l0 ∧ l = closeL s l0 ∧ SRL M W l0 u := by
      intro k l u hk hu
      rw [onL1_leaves _ _ (closeL_noAgg s), List.getElem?_map, Option.map_eq_some_iff] at hk
      obtain ⟨l0, h4, rfl⟩ := hk
      obtain ⟨u', h5, h6⟩ := hcl.get k l0 h4
      rw [hu] at h5
      cases h5
      exact ⟨l0, h4, rfl, h6⟩
    have hrl : ∀ (k : Nat) (l0 : V), (leaves x)[k]? = some l0 → rowL s l0 = true := by
      intro k l0 hk
      have h9 := List.mem_of_getElem? hk
      cases x with
      | agg xs => exact List.all_eq_true.1 c1 l0 h9
      | _ => simp only [leaves, List.mem_singleton] at h9; rw [h9]; exact c1
    obtain ⟨cs, ty, g1, -, g3, g4, g5, g6⟩ := own_store h1 hρ hFb c5 (x := onL1 (closeL s) x) (news := vx.cells.toList) (off := off) hlx (by rw [hnl]; exact c6) (by rw [hnl]; exact c3)
      (Bn := fun k y => ∃ t', (∃ l0, (leaves x)[k]? = some l0 ∧ t' ∈ eatL s l0) ∧ M.ω y = some (.tok t'))
      (fun k l u hk hu => by
        obtain ⟨l0, h4, rfl, h5⟩ := hleaf k l u hk hu
        exact (LR_close h.mem (hrl k l0 h4) h5 (fun _ _ => rfl) (fun _ _ _ _ => rfl)).mono (fun _ _ => rfl) (fun _ h => h) fun y ⟨t', h6, h7⟩ => ⟨⟨t', ⟨l0, h4, h6⟩, h7⟩, rfl⟩)
      (fun k y ⟨t', ⟨l0, h4, h5⟩, h6⟩ hBy => by
        rw [h2 y hBy] at h6
        cases h6
        exact c8 (List.mem_flatMap.2 ⟨l0, List.mem_of_getElem? h4, h5⟩))
      (fun k k' y ⟨t', ⟨l0, h4, h5⟩, h6⟩ ⟨t2, ⟨l2, h7, h8⟩, h9⟩ => by
        rw [h6] at h9
        cases h9
        exact flat_unique (eatL s) c7 h4 h5 h7 h8)
    rw [hnl] at g3 g6
    have hrun := run_storeVar_at W b (p + i * z + off) tid ty cs vx g1 hti hnl g3 hone
    generalize hWW : W.setRow b (stored cs (p + i * z + off) vx.cells.toList) = W' at g4 g5 g6 hrun
    have hother : ∀ y, y ≠ b → W'.heap[y]? = W.heap[y]? := fun y hy => by rw [← hWW]; exact setRow_other W b y _ hy
    have hsz : W'.heap.size = W.heap.size := by rw [← hWW]; simp
    have hFW : ∀ y, M.F y → W'.heap[y]? = W.heap[y]? := fun y hy => hother y (hFb y hy)
    have hWo : W'.os = W.os ∧ W'.tape = W.tape ∧ W'.output = W.output := by rw [← hWW]; exact ⟨rfl, rfl, rfl⟩
    have hexec : (execOp a.eval o).run P W = .ok .skip W' := by
      rw [hr, Sem.run_bind, hrun]
      rfl
    have core : ∀ (kill : Bool) (s' : S), s'.nt = s.nt → s'.nb = s.nb → (∀ t' r, s'.R t' = some r → (t' = t ∧ r = ⟨z, xs.set i (putAt (xs.getD i .bad) off (onL1 (closeL s) x)), true⟩) ∨ (t' ≠ t ∧ t' ∉ eat1 s x ∧ s.R t' = some r)) →
        (∀ b' c', s'.B b' = some c' → ∃ c0, s.B b' = some c0 ∧ ∀ cs', All2 (SRL M W) (leaves c0) cs' → All2 (SRL (M.stow t i off tt.sz (eat1 s x) vx.cells.toList kill) W') (leaves c') cs') →
        ((leaves x).any (isRowL s) = true → kill = true) → MemOK (M.stow t i off tt.sz (eat1 s x) vx.cells.toList kill) W' s' := by
      intro kill s' hnt hnb hR' hB' hkill
      have hσother : ∀ x' j k, x' ≠ t → (M.stow t i off tt.sz (eat1 s x) vx.cells.toList kill).σ x' j k = M.σ x' j k := fun x' j k hne => if_neg fun hh => hne hh.2.1
      exact {
        nt := h.mem.nt.trans hnt.symm
        nb := h.mem.nb.trans hnb.symm
        box := fun b' c' hb' => by
          obtain ⟨c0, h4, h5⟩ := hB' b' c' hb'
          obtain ⟨h6, cs', ty', h7, h8, h9⟩ := h.mem.box b' c0 h4
          refine ⟨h6, cs', ty', (hother _ fun e => ?_).trans h7, stow_keepω h8 (fun _ _ e => by cases e), h5 _ h9⟩
          have e' : M.β b' = b := e
          rw [e', hωb] at h8
          cases h8
        row := fun t' r hr' => by
          rcases hR' t' r hr' with ⟨rfl, rfl⟩ | ⟨hne, hnT, h4⟩
          · refine ⟨ht0, .inl ⟨rfl, _, g4, fun y hy => ?_, fun j k z' ys' hl b2 p2 m2 c2' hv2 => ?_⟩⟩
            · rcases hy with hy | ⟨k, t2, ⟨l0, h4, h5⟩, h6⟩
              · exact stow_keepω (h2 y hy) (fun t2 ht2 e => by cases e; exact c8 ht2)
              · simp only [Mem.stow]
                rw [if_pos ⟨t2, List.mem_flatMap.2 ⟨l0, List.mem_of_getElem? h4, h5⟩, h6⟩]
            · have hv2' : M.ρ t' = .slice (some ⟨b2, p2, none⟩) m2 c2' := hv2
              rw [hρ] at hv2'
              cases hv2'
              have hg0 : (leaves (xs.getD i .bad)).length = z := by
                have := (h.mem.row t' _ hR).2.sizes
                simp only [List.getD, List.getElem?_eq_getElem c5, Option.getD_some]
                exact this _ (List.getElem_mem c5)
              rw [leafAt_put (v := onL1 (closeL s) x) c5 (by rw [hlx, hnl, hg0]; exact c3) (by rw [hlx, hnl]; exact c6)] at hl
              rw [hlx, hnl] at hl
              by_cases hrange : j = i ∧ off ≤ k ∧ k < off + tt.sz
              · rw [if_pos hrange] at hl
                obtain ⟨rfl, h4, h5⟩ := hrange
                have h6 : k - off < vx.cells.toList.length := by rw [hnl]; omega
                have h7 := g5 (k - off) _ (List.getElem?_eq_getElem h6)
                rw [show off + (k - off) = k by omega] at h7
                obtain ⟨l0, h8, h9, -⟩ := hleaf (k - off) _ _ hl (List.getElem?_eq_getElem h6)
                have hk : kill = true := hkill (List.any_eq_true.2 ⟨l0, List.mem_of_getElem? h8, close_isRow h9.symm⟩)
                rw [h7]
                have e7 : (M.stow t' j off tt.sz (eat1 s x) vx.cells.toList kill).σ t' j k = vx.cells.toList.getD (k - off) undef := if_pos ⟨hk, rfl, rfl, h4, h5⟩
                rw [e7, List.getD, List.getElem?_eq_getElem h6]
                rfl
              · rw [if_neg hrange] at hl
                rw [g6 j k _ hl hrange, h3 j k z' ys' hl _ _ _ _ hρ]
                simp only [Mem.stow]
                rw [if_neg]
                rintro ⟨-, -, h4, h5, h6⟩
                exact hrange ⟨h4, h5, h6⟩
          · obtain ⟨h5, h6⟩ := h.mem.row t' r h4
            refine ⟨h5, ?_⟩
            rcases h6 with ⟨hw, B2, h7, h8, h9⟩ | ⟨hw, h7, h8⟩
            · have hblk : ∀ y, B2 y → W'.heap[y]? = W.heap[y]? := fun y hy => hother y fun e => by
                have := h8 y hy
                rw [e, hωb] at this
                cases this
                exact hne rfl
              refine .inl ⟨hw, B2, h7.mono hFW (fun _ h => h) fun y hy => ⟨hy, hblk y hy⟩, fun y hy => stow_keepω (h8 y hy) (fun t2 ht2 e => by cases e; exact hnT ht2), fun j k z' ys' hl b2 p2 m2 c2' hv2 => ?_⟩
              rw [hσother _ _ _ hne]
              have hb2 := (h7.head hv2 (leafAt_ne hl)).1
              rw [World.cell?_of_block (hblk b2 hb2)]
              exact h9 j k z' ys' hl b2 p2 m2 c2' hv2
            · exact .inr ⟨hw, h7.mono hFW fun _ h => h, h8⟩
        frz := fun y hy => by
          refine ⟨?_, by rw [hsz]; exact (h.mem.frz y hy).2⟩
          cases e : (M.stow t i off tt.sz (eat1 s x) vx.cells.toList kill).ω y with
          | none => rfl
          | some l => exact absurd (h.mem.frz y hy).1 (stow_ω e).1
        lt := fun y l hl => by
          rw [hsz]
          obtain ⟨l', h4⟩ := Option.ne_none_iff_exists'.1 (stow_ω hl).1
          exact h.mem.lt y l' h4
        tok := fun y t' hl => by
          rcases (stow_ω hl).2 with ⟨-, e⟩ | h4
          · cases e; exact ht0
          · exact h.mem.tok y t' h4
        bx := fun y k hl => by
          rcases (stow_ω hl).2 with ⟨-, e⟩ | h4
          · cases e
          · exact h.mem.bx y k h4 }
    have evo : ∀ kill, Evo M W (M.stow t i off tt.sz (eat1 s x) vx.cells.toList kill) W' := fun kill =>
      ⟨hWo.1, hWo.2.1, hWo.2.2, by rw [hsz]; exact Nat.le_refl _, fun y _ hω => hother y (fun e => by rw [e, hωb] at hω; cases hω), fun y l hl => .inl (stow_ω hl).1, fun y hy => .inl hy, fun y hy => hy, Nat.le_refl _, Nat.le_refl _, fun _ _ => rfl, fun _ _ => rfl⟩
    refine wp_skipped hexec ?_
    cases hk : (leaves x).any (isRowL s) with
    | true =>
      simp only [hk, if_true] at hK
      have hle := stow_leafy (M := M) (W := W) (t := t) (i := i) (off := off) (m := tt.sz) (T := eat1 s x) (news := vx.cells.toList) (kill := true) hFW
      refine hK _ W' undef ⟨h.size, h.defers, fun y hy => ?_, core true _ ?_ ?_ (fun t' r hr' => ?_) (fun b' c' hb' => ?_) (fun _ => rfl)⟩ ⟨[], rfl, trivial⟩ (evo true)
      · show SR _ _ (onC (killL t i off tt.sz) ((s.drops (eat1 s x)).e y)) _
        rw [(drops_same _ _).1]
        exact hle.all (h.slot y hy)
      · exact (drops_same (eat1 s x) s).2.2.1
      · exact (drops_same (eat1 s x) s).2.2.2
      · have hr2 : (if t' = t then some ⟨z, xs.set i (putAt (xs.getD i .bad) off (onL1 (closeL s) x)), true⟩ else (s.drops (eat1 s x)).R t') = some r := hr'
        split at hr2
        · rename_i e; exact .inl ⟨e, by cases hr2; rfl⟩
        · rename_i e
          rw [drops_R] at hr2
          split at hr2
          · cases hr2
          · rename_i e2; exact .inr ⟨e, e2, hr2⟩
      · have hb2 : ((s.drops (eat1 s x)).B b').map (onL1 (killL t i off tt.sz)) = some c' := hb'
        rw [(drops_same _ _).2.1, Option.map_eq_some_iff] at hb2
        obtain ⟨c0, h4, rfl⟩ := hb2
        exact ⟨c0, h4, fun cs' hcs => hle.cont hcs⟩
    | false =>
      have hk' : ¬ (leaves x).any (isRowL s) = true := by rw [hk]; simp
      simp only [hk, Bool.false_eq_true, if_false] at hK
      have hT := eat_isRow hk
      have hle := stow_plain (M := M) (W := W) (t := t) (i := i) (off := off) (m := tt.sz) (T := eat1 s x) (news := vx.cells.toList) hFW
      refine hK _ W' undef ⟨h.size, h.defers, fun y hy => hle.all (h.slot y hy), core false _ rfl rfl (fun t' r hr' => ?_) (fun b' c' hb' => ⟨c', hb', fun cs' hcs => hle.leaves hcs⟩) (fun e => absurd e hk')⟩ ⟨[], rfl, trivial⟩ (evo false)
      have hr2 : (if t' = t then some ⟨z, xs.set i (putAt (xs.getD i .bad) off (onL1 (closeL s) x)), true⟩ else s.R t') = some r := hr'
      split at hr2
      · rename_i e; exact .inl ⟨e, by cases hr2; rfl⟩
      · rename_i e; exact .inr ⟨e, by rw [hT]; simp, hr2⟩
  · cases hw
end
end Go.TM
end
section
namespace Go.TM
open Go
section
variable {P : Program} {E : Env} {M : Mem} {W : World} {s : S} {n : Nat} {a : Act}
theorem flat_one {x : V} {v : Value} (h : flatL x = true) (hs : SRL M W x v) {F : Nat → Prop} : FR W F x v := by
  cases x <;> first | (simp [flatL] at h; done) | (cases hs; constructor)
theorem flat_leaves {x : V} (h : flat1 x = true) : ∀ l ∈ leaves x, flatL l = true := by
  cases x with
  | agg xs => exact fun l hl => List.all_eq_true.1 h l hl
  | _ => intro l hl; simp only [leaves, List.mem_singleton] at hl; rw [hl]; exact h
theorem flat_box {x : V} (h : flat1 x = true) : boxV s x = true := by
  cases x with
  | agg xs =>
    refine List.all_eq_true.2 fun l hl => ?_
    have := List.all_eq_true.1 h l hl
    cases l <;> first | rfl | simp [flatL] at this
  | int => rfl
  | bool => rfl
  | str => rfl
  | raw => rfl
  | _ => simp [flat1, flatL] at h
theorem store_nest (sta : StaOK P E) (h : St n M W s a) {o : Oper} {tid : TypeId} {tt : TI} {t sz i p j off z : Nat} {ys : List V} {r : Rw} {x : V} {va vx : Value} (hti : TiOK P tid tt) (hr : ∀ w, (execOp a.eval o).run P w = (do Instr.storeAt tid va vx; pure .skip : Sem Next).run P w)
    (ha : SR2 M W (.sadr t i p sz j off) va) (hx : SR2 M W x vx) (hR : s.R t = some r) (hN : s.nest t i p = some (z, ys)) (c1 : flat1 x = true) (c2 : (leaves x).length = tt.sz) (c6 : 0 < tt.sz) (c3 : off + tt.sz ≤ sz) (c4 : z = sz) (c5 : j < ys.length) {c0 : Prop} :
    Step P n M W a o (.st c0 (.tup []) (s.setR t (some ⟨r.sz, setLeaf r.xs i p (.inl z (ys.set j (putAt (ys.getD j .bad) off x))), true⟩))) := by
  subst c4
  intro K Q hK
  obtain ⟨ht0, b, q, m, c, hσ, rfl⟩ := ha
  have hx1 : SR1 M W x vx := SR1_of_2 hx (boxV_notTup (flat_box (s := s) c1))
  obtain ⟨hcl, hone⟩ := SR1_cells h.mem (flat_box c1) hx1
  have hnl : vx.cells.toList.length = tt.sz := by rw [← hcl.length, c2]
  obtain ⟨B, h1, h2, hrec⟩ := unit_recon h.mem (show rowOf s (.sub t i p) = some (z, ys) from hN)
  have h1' : OwnN W M.F B z (M.σ t i p) ys := h1
  have hbB := (h1'.head hσ (by intro e; rw [e] at c5; simp at c5)).1
  have hωb : M.ω b = some (.tok t) := h2 b hbB
  have hFb : ∀ y, M.F y → y ≠ b := fun y hy e => by rw [e] at hy; rw [(h.mem.frz b hy).1] at hωb; cases hωb
  obtain ⟨cs, ty, g1, -, g3, g4, -, -⟩ := own_store h1' hσ hFb c5 (x := x) (news := vx.cells.toList) (off := off) (by rw [c2, hnl]) (by rw [hnl]; exact c6) (by rw [hnl]; exact c3)
    (Bn := fun _ _ => False) (fun k l u hk hu => by
      obtain ⟨u', h5, h6⟩ := hcl.get k l hk
      rw [hu] at h5
      cases h5
      have hfl := flat_leaves c1 l (List.mem_of_getElem? hk)
      exact LR.of (fun _ => flat_one hfl h6) fun z' ys' e => by subst e; simp [flatL] at hfl) (fun _ _ h => h.elim) (fun _ _ _ h => h.elim)
  rw [hnl] at g3
  have hrun := run_storeVar_at W b (q + j * z + off) tid ty cs vx g1 hti hnl g3 hone
  generalize hWW : W.setRow b (stored cs (q + j * z + off) vx.cells.toList) = W' at g4 hrun
  have hother : ∀ y, y ≠ b → W'.heap[y]? = W.heap[y]? := fun y hy => by rw [← hWW]; exact setRow_other W b y _ hy
  have hsz : W'.heap.size = W.heap.size := by rw [← hWW]; simp
  have hFW : ∀ y, M.F y → W'.heap[y]? = W.heap[y]? := fun y hy => hother y (hFb y hy)
  have hWo : W'.os = W.os ∧ W'.tape = W.tape ∧ W'.output = W.output := by rw [← hWW]; exact ⟨rfl, rfl, rfl⟩
  obtain ⟨⟨B'', k1, k2⟩, k3⟩ := hrec r hR W' M.F B z (ys.set j (putAt (ys.getD j .bad) off x)) hFW (fun _ h => h) (fun y hy hnB => hother y fun e => hnB (e ▸ hbB)) (g4.mono (fun _ _ => rfl) (fun _ h => h) fun y hy => ⟨hy.elim (fun h => h) fun ⟨_, h⟩ => h.elim, rfl⟩) (fun y hy => .inr hy)
  have hexec : (execOp a.eval o).run P W = .ok .skip W' := by
    rw [hr, Sem.run_bind, hrun]
    rfl
  have hk : Keep M W M W' := ⟨fun _ h => h, hFW, fun _ _ => rfl, fun _ _ _ _ => rfl, fun _ _ => rfl, Nat.le_refl _, Nat.le_refl _⟩
  refine wp_skipped hexec (hK M W' undef ?_ ⟨[], rfl, trivial⟩ ⟨hWo.1, hWo.2.1, hWo.2.2, by rw [hsz]; exact Nat.le_refl _, fun y _ hω => hother y (fun e => by rw [e, hωb] at hω; cases hω), fun y l hl => .inl (by rw [hl]; simp), fun y hy => .inl hy, fun y hy => hy, Nat.le_refl _, Nat.le_refl _, fun _ _ => rfl, fun _ _ => rfl⟩)
  refine h.slots_keep ?_ hk rfl
  exact {
    nt := h.mem.nt
    nb := h.mem.nb
    box := fun b' c' hb' => by
      obtain ⟨h6, cs', ty', h7, h8, h9⟩ := h.mem.box b' c' hb'
      exact ⟨h6, cs', ty', (hother _ fun e => by rw [e, hωb] at h8; cases h8).trans h7, h8, hk.leaves h9⟩
    row := fun t' r' hr' => by
      have hr2 : (if t' = t then some ⟨r.sz, setLeaf r.xs i p (.inl z (ys.set j (putAt (ys.getD j .bad) off x))), true⟩ else s.R t') = some r' := hr'
      split at hr2
      · rename_i e
        subst e
        cases hr2
        refine ⟨ht0, .inl ⟨rfl, B'', k1, fun y hy => ?_, k3⟩⟩
        rcases k2 y hy with h3 | h3
        · exact h2 y h3
        · exact h3.1
      · rename_i e
        obtain ⟨h5, h6⟩ := h.mem.row t' r' hr2
        exact ⟨h5, hk.row h5 (fun _ y hy => ⟨hy, hother y fun e' => by rw [e', hωb] at hy; cases hy; exact e rfl⟩) h6⟩
    frz := fun y hy => ⟨(h.mem.frz y hy).1, by rw [hsz]; exact (h.mem.frz y hy).2⟩
    lt := fun y l hl => by rw [hsz]; exact h.mem.lt y l hl
    tok := h.mem.tok
    bx := h.mem.bx }
theorem adC_box {x : V} {v : Value} (hm : MemOK M W s) (hb : boxV s x = true) (hx : SR1 M W x v) :
    ∃ M', MemOK M' W (adC x s).2 ∧ Same M W M' ∧ All2 (SRL M' W) (leaves (adC x s).1) v.cells.toList ∧ (leaves (adC x s).1).length = (leaves x).length := by
  obtain ⟨hcl, -⟩ := SR1_cells hm hb hx
  obtain ⟨M', h1, h2, h3⟩ := adLs_nil hm hcl
  have e1 : leaves (adC x s).1 = (adLs (leaves x) s).1 ∧ (adC x s).2 = (adLs (leaves x) s).2 := by
    by_cases ha : ∃ xs, x = .agg xs
    · obtain ⟨xs, rfl⟩ := ha
      exact ⟨rfl, rfl⟩
    · have e2 : adC x s = adL x s := by
        unfold adC
        split
        · exact absurd ⟨_, rfl⟩ ha
        · rfl
      rw [e2, leaves_ne ha]
      refine ⟨?_, rfl⟩
      show leaves (adL x s).1 = [(adL x s).1]
      apply leaves_ne
      rintro ⟨xs, e⟩
      unfold adL at e
      split at e
      · cases e
      · exact ha ⟨_, e⟩
  rw [e1.1, e1.2]
  refine ⟨M', h1, h2, h3, ?_⟩
  rw [h3.length, hcl.length]
theorem store_box (sta : StaOK P E) (h : St n M W s a) {o : Oper} {tid : TypeId} {tt : TI} {b off : Nat} {c x : V} {va vx : Value} (hti : TiOK P tid tt) (hr : ∀ w, (execOp a.eval o).run P w = (do Instr.storeAt tid va vx; pure .skip : Sem Next).run P w)
    (ha : SR2 M W (.ptr b off) va) (hx : SR2 M W x vx) (hB : s.B b = some c) (c1 : boxV s x = true) (c2 : (leaves x).length = tt.sz) (c6 : 0 < tt.sz) (c3 : off + tt.sz ≤ (leaves c).length) {c0 : Prop} :
    Step P n M W a o (.st c0 (.tup []) ((adC x s).2.setB b (some (putAt c off (adC x s).1)))) := by
  intro K Q hK
  obtain ⟨hb0, rfl⟩ := ha
  have hx1 : SR1 M W x vx := SR1_of_2 hx (boxV_notTup c1)
  obtain ⟨hcl, hone⟩ := SR1_cells h.mem c1 hx1
  have hnl : vx.cells.toList.length = tt.sz := by rw [← hcl.length, c2]
  obtain ⟨M1, k1, k2, k3, k4⟩ := adC_box h.mem c1 hx1
  obtain ⟨-, cs, ty, h2, h3, h4⟩ := h.mem.box b c hB
  have hcsz : (leaves c).length = cs.size := by rw [h4.length]; simp
  have hfit : off + tt.sz ≤ cs.size := by rw [← hcsz]; exact c3
  have hrun := run_storeVar_at W (M.β b) off tid ty cs vx h2 hti hnl hfit hone
  have hblk := setRow_heap W (M.β b) cs (stored cs off vx.cells.toList) ty (0, 0) h2
  generalize hWW : W.setRow (M.β b) (stored cs off vx.cells.toList) = W' at hrun hblk
  have hother : ∀ y, y ≠ M.β b → W'.heap[y]? = W.heap[y]? := fun y hy => by rw [← hWW]; exact setRow_other W _ y _ hy
  have hsz : W'.heap.size = W.heap.size := by rw [← hWW]; simp
  have hFb : ∀ y, M.F y → y ≠ M.β b := fun y hy e => by rw [e] at hy; rw [(h.mem.frz _ hy).1] at h3; cases h3
  have hWo : W'.os = W.os ∧ W'.tape = W.tape ∧ W'.output = W.output := by rw [← hWW]; exact ⟨rfl, rfl, rfl⟩
  have hexec : (execOp a.eval o).run P W = .ok .skip W' := by
    rw [hr, Sem.run_bind, hrun]
    rfl
  have hk1 : Keep M1 W M1 W' := ⟨fun _ h => h, fun y hy => hother y (hFb y (k2.Fs ▸ hy)), fun _ _ => rfl, fun _ _ _ _ => rfl, fun _ _ => rfl, Nat.le_refl _, Nat.le_refl _⟩
  have hk : Keep M W M1 W' := k2.toKeep.trans hk1
  have hβ : M1.β b = M.β b := k2.β b hb0
  have hωb : M1.ω (M.β b) = some (.box b) := by rw [k2.ωs]; exact h3
  refine wp_skipped hexec (hK M1 W' undef ?_ ⟨[], rfl, trivial⟩ ⟨hWo.1, hWo.2.1, hWo.2.2, by rw [hsz]; exact Nat.le_refl _, fun y _ hω => hother y (fun e => by rw [e, h3] at hω; cases hω), fun y l hl => .inl (by rw [← k2.ωs, hl]; simp), fun y hy => .inl (k2.Fs ▸ hy), hk.F, hk.nt, hk.nb, hk.ρ, hk.β⟩)
  refine h.slots_keep ?_ hk (adC_e x s)
  have hleaves : leaves (putAt c off (adC x s).1) = (leaves c).take off ++ leaves (adC x s).1 ++ (leaves c).drop (off + (leaves (adC x s).1).length) := putAt_leaves (by rw [k4, c2]; exact c3) (by rw [k4, c2]; exact c6)
  exact {
    nt := k1.nt
    nb := k1.nb
    box := fun b' c' hb' => by
      have hb2 : (if b' = b then some (putAt c off (adC x s).1) else (adC x s).2.B b') = some c' := hb'
      split at hb2
      · rename_i e
        subst e
        cases hb2
        refine ⟨Nat.lt_of_lt_of_le hb0 k2.nb, _, ty, by rw [hβ]; exact hblk, by rw [hβ]; exact hωb, ?_⟩
        rw [hleaves]
        have h5 : All2 (SRL M1 W') (leaves c) cs.toList := hk.leaves h4
        have h6 : All2 (SRL M1 W') (leaves (adC x s).1) vx.cells.toList := hk1.leaves k3
        have e7 : (leaves (adC x s).1).length = vx.cells.toList.length := h6.length
        simp only [stored]
        rw [e7]
        exact ((h5.take off).append h6).append (h5.drop _)
      · rename_i e
        rw [adC_B] at hb2
        obtain ⟨h6, cs', ty', h7, h8, h9⟩ := h.mem.box b' c' hb2
        have hβ' : M1.β b' = M.β b' := k2.β b' h6
        refine ⟨Nat.lt_of_lt_of_le h6 k2.nb, cs', ty', ?_, ?_, hk.leaves h9⟩
        · rw [hβ', hother _ fun e' => by rw [e', h3] at h8; cases h8; exact e rfl]
          exact h7
        · rw [hβ', k2.ωs]
          exact h8
    row := fun t r hr => by
      obtain ⟨h5, h6⟩ := k1.row t r hr
      exact ⟨h5, hk1.row h5 (fun _ y hy => ⟨hy, hother y fun e => by rw [e, hωb] at hy; cases hy⟩) h6⟩
    frz := fun y hy => ⟨(k1.frz y hy).1, by rw [hsz]; exact (k1.frz y hy).2⟩
    lt := fun y l hl => by rw [hsz]; exact k1.lt y l hl
    tok := k1.tok
    bx := k1.bx }
theorem make_box (h : St n M W s a) {o : Oper} {e : TypeId} {x : V} {vx : Value} (hb : boxV s x = true) (hx : SR1 M W x vx) {c0 : Prop}
    (hr : (execOp a.eval o).run P W = .ok (.value (.pointer (some ⟨W.heap.size, 0, none⟩))) (W.alloc (.cells vx.cells e))) :
    Step P n M W a o (.st c0 (.ptr s.nb 0) ((adC x s).2.newB (adC x s).1)) := by
  intro K Q hK
  obtain ⟨M1, k1, k2, k3, k4⟩ := adC_box h.mem hb hx
  have hold : ∀ y, y < W.heap.size → (W.alloc (.cells vx.cells e)).heap[y]? = W.heap[y]? := fun y hy => heap_alloc_old W _ hy
  have hw : MemOK M1 (W.alloc (.cells vx.cells e)) (adC x s).2 := k1.world (by simp) fun y hy => by
    rcases hy with hy | hy
    · exact hold y (k1.frz y hy).2
    · obtain ⟨l, hl⟩ := Option.ne_none_iff_exists'.1 hy
      exact hold y (k1.lt y l hl)
  have hk1 : Keep M1 W M1 (W.alloc (.cells vx.cells e)) := ⟨fun _ h => h, fun y hy => hold y (k1.frz y hy).2, fun _ _ => rfl, fun _ _ _ _ => rfl, fun _ _ => rfl, Nat.le_refl _, Nat.le_refl _⟩
  have hnone : M1.ω W.heap.size = none := by
    cases e : M1.ω W.heap.size with
    | none => rfl
    | some l => have := k1.lt _ l e; omega
  obtain ⟨l1, l2⟩ := new_box hw (blk := W.heap.size) (c := (adC x s).1) (cs := vx.cells) (ty := e) (heap_alloc_new W _) hnone (fun hF => by have := (k1.frz _ hF).2; omega) (hk1.leaves k3)
  have hk : Keep M W (M1.newbox W.heap.size) (W.alloc (.cells vx.cells e)) := (k2.toKeep.trans hk1).trans (newbox_keep _)
  rw [adC_nb] at l2
  refine wp_value hr (hK _ _ _ (h.slots_keep l1 hk (adC_e x s)) l2 ⟨rfl, rfl, rfl, by simp, fun y hy _ => hold y hy, fun y l hl => ?_, fun y hy => .inl (k2.Fs ▸ hy), hk.F, hk.nt, hk.nb, hk.ρ, hk.β⟩)
  simp only [Mem.newbox] at hl
  split at hl
  · rename_i e'; right; rw [e']; exact Nat.le_refl _
  · left; rw [← k2.ωs, hl]; simp
theorem alloc_sound (sta : StaOK P E) (h : St n M W s a) {o : Oper} {t : TypeId} (ho : o.op = .alloc t) (hc : (allocR (E.ti t) s).c) : Step P n M W a o (allocR (E.ti t) s) := by
  cases ht : E.ti t with
  | none => rw [ht] at hc; exact hc.elim
  | some tt =>
    rw [ht] at hc
    obtain ⟨ie, hie, his, hib, z, hzz, hzr⟩ := (sta.ti t tt ht).info
    obtain ⟨z1, -, -⟩ := zR_ok (M := M) (W := W) (s := s) hzr
    refine make_box (e := t) h hc z1 ?_
    simp [execOp, ho, Instr.alloc, zeroValue, typeInfo, hie, hzz, newVar, newRow]
theorem box_sound (sta : StaOK P E) (h : St n M W s a) {o : Oper} {t : TypeId} {x : Operand} {xv : V} (ho : o.op = .box t x) (hx : SR2 M W xv (a.eval x)) (hc : (boxOpR (E.ti t) xv s).c) : Step P n M W a o (boxOpR (E.ti t) xv s) := by
  cases ht : E.ti t with
  | none => rw [ht] at hc; exact hc.elim
  | some tt =>
    rw [ht] at hc
    obtain ⟨h1, h2⟩ := hc
    refine make_box (e := t) h h1 (SR1_of_2 hx (boxV_notTup h1)) ?_
    simp [execOp, ho, Instr.box, newVar, newRow]
theorem store_sound (sta : StaOK P E) (h : St n M W s a) {o : Oper} {t : TypeId} {x y : Operand} {xa xv : V} (ho : o.op = .store t x y) (ha : SR2 M W xa (a.eval x)) (hx : SR2 M W xv (a.eval y)) (hc : (storeR (E.ti t) xa xv s).c) :
    Step P n M W a o (storeR (E.ti t) xa xv s) := by
  have hr : ∀ w, (execOp a.eval o).run P w = (do Instr.storeAt t (a.eval x) (a.eval y); pure .skip : Sem Next).run P w := fun w => by simp only [execOp, ho]
  unfold storeR at hc ⊢
  split at hc
  · rename_i tt b off ht
    split at hc
    · rename_i c hB
      obtain ⟨c1, c2, c6, c3⟩ := hc
      exact store_box sta h (sta.ti t tt ht) hr ha hx hB c1 c2 c6 c3
    · exact hc.elim
  · rename_i tt t' sz i off ht
    split at hc
    · rename_i z xs hR
      obtain ⟨⟨c1, c2, c3, c4, c5⟩, c6, c7, c8⟩ := hc
      exact store_row sta h (sta.ti t tt ht) hr ha hx hR c1 c2 c3 c4 c5 c6 c7 c8
    · exact hc.elim
  · rename_i tt t' i p sz j off ht
    split at hc
    · rename_i r z ys hR hN
      obtain ⟨c1, c2, c6, c3, c4, c5⟩ := hc
      exact store_nest sta h (sta.ti t tt ht) hr ha hx hR hN c1 c2 c6 c3 c4 c5
    · exact hc.elim
  · exact hc.elim
end
end Go.TM
end
section
namespace Go.TM
open Go Go.Instr
section
variable {P : Program} {E : Env} {M : Mem} {W : World} {s : S} {n : Nat} {a : Act}
theorem fill_part : ∀ (l : List Value) (k off : Nat) (cells : Array Value), off + k + l.length ≤ cells.size →
    ((l.zipIdx k).foldl (fun cs (p : Value × Nat) => cs.setIfInBounds (off + p.2) p.1) cells).toList = cells.toList.take (off + k) ++ l ++ cells.toList.drop (off + k + l.length)
  | [], k, off, cells, h => by simp
  | v :: l, k, off, cells, h => by
    simp only [List.zipIdx_cons, List.foldl_cons]
    simp only [List.length_cons] at h
    rw [fill_part l (k + 1) off (cells.setIfInBounds (off + k) v) (by simp; omega)]
    have e := list_seg_step cells.toList (off + k) v l (by simp; omega)
    simpa [Array.toList_setIfInBounds, Nat.add_assoc] using e
theorem mapM_get {α β : Type} (f : α → Option β) : ∀ {l : List α} {r : List β}, l.mapM f = some r → ∀ {i : Nat} {x : α}, l[i]? = some x → ∃ y, f x = some y ∧ r[i]? = some y
  | [], r, h, i, x, hx => by simp at hx
  | a :: l, r, h, i, x, hx => by
    simp only [List.mapM_cons, Option.bind_eq_bind, Option.pure_def, Option.bind_eq_some_iff] at h
    obtain ⟨b, hb, rs, hrs, he⟩ := h
    cases he
    cases i with
    | zero => simp at hx; subst hx; exact ⟨b, hb, rfl⟩
    | succ i =>
      obtain ⟨y, h1, h2⟩ := mapM_get f hrs (i := i) (x := x) (by simpa using hx)
      exact ⟨y, h1, by simpa using h2⟩
theorem buildFill_ok (sta : StaOK P E) (hm : MemOK M W s) {t : TypeId} {fs : Array Field} {places : List (Nat × Nat)} (hu : P.underlying t = some (.struct fs)) (hpl : fs.toList.mapM (fun f => (P.info? f.type).map fun i => (f.offset, i.size)) = some places) :
    ∀ (ps : List (Nat × V)) (vs : List Value) (ls : List V) (cells : Array Value) {ls' : List V}, All2 (SR1 M W) (ps.map (·.2)) vs → (∀ p ∈ ps, boxV s p.2 = true) → All2 (SRL M W) ls cells.toList → buildFill E t ls ps = some ls' →
      ∃ cells', Instr.fill (places.toArray[·]?) cells ((ps.map (·.1)).zip vs) = some cells' ∧ All2 (SRL M W) ls' cells'.toList
  | [], vs, ls, cells, ls', hv, _, hl, h => by
    cases vs with
    | cons => exact hv.elim
    | nil =>
      simp only [buildFill, Option.some.injEq] at h
      subst h
      exact ⟨cells, by simp [Instr.fill], hl⟩
  | (f, x) :: ps, vs, ls, cells, ls', hv, hb, hl, h => by
    cases vs with
    | nil => exact hv.elim
    | cons v vs =>
      simp only [buildFill] at h
      split at h
      · rename_i o u hf
        split at h
        · rename_i i hi
          split at h
          · rename_i hcond
            obtain ⟨fs', fd, ti, h1, h2, rfl, rfl, h3, h4⟩ := sta.fld t f o u hf
            rw [hu] at h1
            cases h1
            obtain ⟨pl, h5, h6⟩ := mapM_get _ hpl (i := f) (x := fd) (by rw [Array.getElem?_toList]; exact h2)
            rw [h3] at h5
            simp only [Option.map_some, Option.some.injEq] at h5
            subst h5
            obtain ⟨ie, g1, g2, -⟩ := (sta.ti _ i hi).info
            rw [h3] at g1
            cases g1
            obtain ⟨hcl, -⟩ := SR1_cells hm (hb (f, x) (by simp)) hv.1
            have hn : v.cells.toList.length = i.sz := by rw [← hcl.length]; exact hcond.1
            have hnl : v.cells.size = ti.size := by rw [g2, ← hn]; simp
            have hlen : ls.length = cells.size := by rw [hl.length]; simp
            have hfit : fd.offset + v.cells.toList.length ≤ cells.size := by rw [hn, ← hlen]; exact hcond.2
            have hpart := fill_part v.cells.toList 0 fd.offset cells (by simpa using hfit)
            simp only [Nat.add_zero] at hpart
            have hnew : All2 (SRL M W) (ls.take fd.offset ++ leaves x ++ ls.drop (fd.offset + i.sz)) ((v.cells.toList.zipIdx 0).foldl (fun cs (p : Value × Nat) => cs.setIfInBounds (fd.offset + p.2) p.1) cells).toList := by
              rw [hpart, hn]
              exact ((hl.take _).append hcl).append (hl.drop _)
            obtain ⟨cells', k1, k2⟩ := buildFill_ok sta hm hu hpl ps vs _ _ hv.2 (fun p hp => hb p (by simp [hp])) hnew h
            refine ⟨cells', ?_, k2⟩
            have h6' : places.toArray[f]? = some (fd.offset, ti.size) := by simpa using h6
            simp only [List.map_cons, List.zip_cons_cons, Instr.fill, h6']
            have hc1 : ¬ (v.cells.size ≠ ti.size || decide (fd.offset + v.cells.size > cells.size)) = true := by
              have : v.cells.toList.length = v.cells.size := Array.length_toList
              simp [hnl]
              omega
            rw [if_neg hc1]
            rw [← k1]
            congr 1
            rw [← Array.foldl_toList, Array.toList_zipIdx]
          · cases h
        · cases h
      · cases h
theorem build_quiet (sta : StaOK P E) (h : St n M W s a) {o : Oper} {t : TypeId} {parts : Array (Nat × Operand)} (ho : o.op = .build t parts) (hok : (parts.toList.map (·.2)).all (okOp n) = true) (hn : needs true s (parts.toList.map (·.2)))
    (hc : (buildR E t (parts.toList.map fun p => (p.1, opnd s p.2)) s).c) : QOK P n M W s a o (buildR E t (parts.toList.map fun p => (p.1, opnd s p.2)) s) := by
  have hrel := opnds_sound h hok hn
  unfold buildR at hc ⊢
  split at hc
  · rename_i tt ht
    split at hc
    · rename_i zs hz
      split at hc
      · rename_i ls hfill
        obtain ⟨hall, hbld⟩ := hc
        obtain ⟨fs, places, hu, hpl⟩ := sta.bld t hbld
        obtain ⟨ie, hie, his, hib, z, hzz, hzr⟩ := (sta.ti t tt ht).info
        rw [hz] at hzr
        obtain ⟨zvs, rfl, hzv⟩ := hzr
        obtain ⟨hz1, -, -⟩ := zLs_ok (M := M) (W := W) (s := s) hzv
        have hb : ∀ p ∈ parts.toList.map fun p => (p.1, opnd s p.2), boxV s p.2 = true := fun p hp => List.all_eq_true.1 hall p hp
        have hrel1 : All2 (SR1 M W) ((parts.toList.map fun p => (p.1, opnd s p.2)).map (·.2)) ((parts.toList.map (·.2)).map a.eval) := by
          have e : (parts.toList.map fun p => (p.1, opnd s p.2)).map (·.2) = (parts.toList.map (·.2)).map (opnd s) := by simp
          rw [e]
          refine hrel.imp_mem fun x v hm hr => SR1_of_2 hr (boxV_notTup (s := s) ?_)
          rw [← e] at hm
          obtain ⟨p, hp, rfl⟩ := List.mem_map.1 hm
          exact hb p hp
        obtain ⟨cells', k1, k2⟩ := buildFill_ok sta h.mem hu hpl _ _ zs zvs.toArray hrel1 hb (by simpa using hz1) hfill
        have hbuilt : P.built t (parts.map fun (i, x) => (i, a.eval x)).toList = some cells' := by
          unfold Program.built
          simp only [hie, hu, hzz, hpl, Value.cells]
          rw [← k1]
          congr 1
          rw [Array.toList_map]
          have : ∀ l : List (Nat × Operand), l.map (fun p => (p.1, a.eval p.2)) = ((l.map fun p => (p.1, opnd s p.2)).map (·.1)).zip ((l.map (·.2)).map a.eval) := by
            intro l
            induction l with
            | nil => rfl
            | cons p l ih => simp only [List.map_cons, List.zip_cons_cons, ih]
          exact this _
        obtain ⟨M', l1, l2, l3⟩ := adLs_nil h.mem k2
        refine ⟨M', .agg cells', fun w hw => quietAt_value ?_, h.same l1 l2.toKeep (adLs_e _ _), ⟨cells'.toList, by simp, l3⟩, l2.evo, fun hp => by cases hp⟩
        simp only [execOp, ho]
        rw [Sem.run_bind, run_build w t _ _ hbuilt]
        rfl
      · exact hc.elim
    · exact hc.elim
  · exact hc.elim
theorem bytes_ok {xs : List V} {bs : List UInt8} (h : bytesL xs = some bs) : ∃ ns : List Int, xs = ns.map (.int .u8) ∧ bs = ns.map fun n => UInt8.ofNat n.toNat := by
  induction xs generalizing bs with
  | nil => simp only [bytesL, Option.some.injEq] at h; subst h; exact ⟨[], rfl, rfl⟩
  | cons x xs ih =>
    simp only [bytesL] at h
    split at h
    · rename_i b bs' h1 h2
      obtain ⟨ns, rfl, rfl⟩ := ih h2
      cases h
      unfold byteL at h1
      split at h1
      · rename_i m
        cases h1
        exact ⟨m :: ns, rfl, rfl⟩
      · cases h1
    · cases h
theorem push_fold : ∀ (ns : List Int) (b : ByteArray), ns.foldl (fun r n => r.push (UInt8.ofNat n.toNat)) b = ⟨b.data ++ (ns.map fun n => UInt8.ofNat n.toNat).toArray⟩
  | [], b => by simp
  | n :: ns, b => by
    rw [List.foldl_cons, push_fold ns]
    have : (b.push (UInt8.ofNat n.toNat)).data = b.data.push (UInt8.ofNat n.toNat) := rfl
    rw [this]
    congr 1
    simp
theorem conv_pure (sta : StaOK P E) (h : St n M W s a) (t u : TypeId) {x : V} {v : Value} (hx : SR2 M W x v) (hq : (convR E t u x s).q = true) : (convR E t u x s).c → Pur P M W s (convR E t u x s) (convert t u v) := by
  revert hx
  unfold convR at hq ⊢
  split
  · rename_i k m
    intro hx _
    split
    · rename_i kt ku h1 h2
      cases hx
      refine Pur.ok ⟨_, fun w _ => ?_, rfl⟩
      simp [convert, run_underlying (sta.int t kt h1), run_underlying (sta.int u ku h2), Conv.intToInt]
    · exact Pur.no _
  · simp [R.st] at hq
  · rename_i r
    intro hx hc
    split
    · rename_i z xs hR
      split
      · rename_i bs hbs
        refine Pur.if_ fun ⟨h1, h2⟩ => ?_
        rw [Option.bind_eq_some_iff] at h2
        obtain ⟨e, he, hk⟩ := h2
        obtain ⟨-, rfl⟩ := hx
        obtain ⟨ns, rfl, rfl⟩ := bytes_ok hbs
        have hrow := (h.mem.row r _ hR).2
        refine ⟨.string ⟨(ns.map fun n : Int => UInt8.ofNat n.toNat).toArray⟩, fun w hw => ?_, rfl⟩
        have hsz := hrow.sizes
        rcases hrow with ⟨-, B, o1, o2, -⟩ | ⟨hw', -⟩
        · simp only at o1
          have hlist : ∀ (b o c : Nat) (cs : Array Value) (ty : TypeId) (uu : Nat → Nat → Value), z = 1 → (∀ j i l, leafAt (ns.map (V.int .u8)) j i = some l → w.cell? ⟨b, o + j * z + i, none⟩ = some (uu j i)) →
              (∀ j i l, leafAt (ns.map (V.int .u8)) j i = some l → FR W M.F l (uu j i)) → (loadCells ⟨b, o, none⟩ ns.length).run P w = .ok (ns.map (Value.int .u8)).toArray w := by
            intro b o c cs ty uu hz hcell hfr
            have := run_loadCells_list (P := P) w ⟨b, o, none⟩ (ns.map (Value.int .u8)) fun j v hv => ?_
            · simpa using this
            · rw [List.getElem?_map, Option.map_eq_some_iff] at hv
              obtain ⟨m, hm, rfl⟩ := hv
              have hat : leafAt (ns.map (V.int .u8)) j 0 = some (.int .u8 m) := by simp [leafAt, hm, leaves]
              have h3 := hfr j 0 _ hat
              have h4 := hcell j 0 _ hat
              generalize uu j 0 = q at h3 h4
              cases h3
              rw [add_eq]
              rw [hz] at h4
              simpa using h4
          generalize hρ : M.ρ r = q at o1
          generalize hys : ns.map (V.int .u8) = ys at o1
          cases o1 with
          | nil B sz A =>
            have hns : ns = [] := by simpa using hys
            subst hns
            rw [run_convert_bytes_string w t u e A 0 0 (sta.el t e he) (sta.int e .u8 hk) (sta.str u h1)]
            cases A with
            | none => simp [Conv.bytesToString]; rfl
            | some A =>
              have h5 : (loadCells A 0).run P w = .ok (([] : List Int).map (Value.int .u8)).toArray w := by
                have := run_loadCells_list (P := P) w A [] (fun j v hv => by simp at hv)
                simpa using this
              rw [run_bytesToString w A 0 0 [] h5]
              rfl
          | row _ _ _ b o c cs ty uu Bs hB hBs hd hb hn' hm hcs hs hcc hl hN =>
            subst hys
            rw [run_convert_bytes_string w t u e _ _ _ (sta.el t e he) (sta.int e .u8 hk) (sta.str u h1)]
            by_cases hns : ns = []
            · subst hns
              have h5 : (loadCells ⟨b, o, none⟩ 0).run P w = .ok (([] : List Int).map (Value.int .u8)).toArray w := by
                have := run_loadCells_list (P := P) w ⟨b, o, none⟩ [] (fun j v hv => by simp at hv)
                simpa using this
              rw [List.map_nil, List.length_nil, run_bytesToString w _ 0 c [] h5]
              rfl
            · have hz1 : z = 1 := by
                cases ns with
                | nil => exact absurd rfl hns
                | cons m ns => exact (hs (.int .u8 m) (by simp)).symm
              have h5 := hlist b o c cs ty uu hz1 (fun j i l hl' => by
                rw [cell_own h (o2 b hB) hw, cell_of hb]
                exact hcc j i l hl') (fun j i l hl' => hl j i l hl' (by
                intro z' ys' e'
                subst e'
                unfold leafAt at hl'
                rw [List.getElem?_map, Option.bind_eq_some_iff] at hl'
                obtain ⟨e1, h6, h7⟩ := hl'
                rw [Option.map_eq_some_iff] at h6
                obtain ⟨m, -, rfl⟩ := h6
                have h8 := List.mem_of_getElem? h7
                simp [leaves] at h8))
              rw [List.length_map, run_bytesToString w _ ns.length c ns h5, push_fold]
              simp
        · cases hw'
      · exact Pur.no _
    · exact Pur.no _
  · exact fun _ _ => Pur.no _
theorem cut0_run (sta : StaOK P E) {t e : TypeId} {tt : TI} (he : E.el t = some e) (ht : E.ti e = some tt) {k k' : IntKind} (A : Option Addr) (m c : Nat) (w : World) :
    (Instr.sliceAt t (.slice A m c) none (some (.int k 0)) (some (.int k' 0))).run P w = .ok (.slice A 0 0) w := by
  have hu := sta.el t e he
  have hsz := (sta.ti e tt ht).size
  have hb : (sliceBounds true m c none (some (.int k 0)) (some (.int k' 0))).run P w = .ok (0, 0, 0) w := by
    unfold sliceBounds
    simp [run_bound (P := P) (k := k') (i := 0) (y := c) _ ⟨by omega, by omega⟩, run_bound (P := P) (k := k) (i := 0) (y := 0) _ ⟨by omega, by omega⟩]
  unfold Instr.sliceAt
  rw [Sem.run_bind, run_und hu]
  simp only [Result.andThen]
  unfold Instr.slice
  rw [Sem.run_bind, run_und hu]
  simp [hb, hsz]
theorem cut0_quiet (sta : StaOK P E) (h : St n M W s a) {o : Oper} {t : TypeId} {x hh m : V} {v vh vm : Value} (hr : ∀ w, (execOp a.eval o).run P w = (do pure (Next.value (← Instr.sliceAt t v none (some vh) (some vm))) : Sem Next).run P w)
    (hx : SR2 M W x v) (h1 : SR2 M W hh vh) (h2 : SR2 M W m vm) (hc : (cut0R E t x hh m s).c) : QOK P n M W s a o (cut0R E t x hh m s) := by
  have fin : ∀ (e : TypeId) (tt : TI) (A : Option Addr) (len c : Nat) (k k' : IntKind), E.el t = some e → E.ti e = some tt → v = .slice A len c → vh = .int k 0 → vm = .int k' 0 → QOK P n M W s a o (.ad True (.own s.nt) (s.newR tt.sz [])) := by
    rintro e tt A len c k k' he ht rfl rfl rfl
    obtain ⟨M', k1, k2, k3, k4, k5⟩ := nil_row h.mem tt.sz A
    refine ⟨M', .slice A 0 0, fun w hw => quietAt_value ?_, h.same k1 k2 rfl, k3, Same.evo ⟨k2, k4, k5⟩, fun hp => by cases hp⟩
    rw [hr, Sem.run_bind, cut0_run sta he ht]
    rfl
  unfold cut0R at hc ⊢
  split at hc
  · rename_i xs k k' tt htt
    rw [Option.bind_eq_some_iff] at htt
    obtain ⟨e, he, ht⟩ := htt
    obtain ⟨A, c, rfl, -⟩ := FR.cap (show FR W M.F (.lst xs) v from hx)
    exact fin e tt A _ c k k' he ht rfl h1 h2
  · rename_i r k k' tt htt
    rw [Option.bind_eq_some_iff] at htt
    obtain ⟨e, he, ht⟩ := htt
    obtain ⟨-, hv⟩ := hx
    split at hc
    · rename_i rr hR
      obtain ⟨A, c, e2⟩ := (h.mem.row r rr hR).2.len
      have := fin e tt A _ c k k' he ht (hv.trans e2) h1 h2
      exact this
    · exact hc.elim
  · exact hc.elim
end
end Go.TM
end
section
namespace Go.TM
open Go
section
variable {P : Program} {E : Env} {M : Mem} {W : World} {s : S} {n : Nat} {a : Act}
theorem run_callv {o : Oper} {c : Call} {g : Operand} {f : FuncId} {cs : List Value} (ho : o.op = .call c) (hg : c.callee = .value g) (he : a.eval g = .func (.func f) #[] cs.toArray)
    (has : ∃ fn, P.funcs[f]? = some fn ∧ (fn.name == "runtime.NumGoroutine") = false ∧ fn.body.isNone = false) (w : World) :
    (execOp a.eval o).run P w = .ok (.enter f (c.args.toList.map a.eval ++ cs).toArray) w := by
  obtain ⟨fn, h1, h2, h3⟩ := has
  simp only [execOp, ho, resolve, hg, he, Deferred.ofValue, pure_bind, invoke, callFunc]
  rw [Sem.run_bind]
  simp only [program, Sem.run, Result.andThen, h1]
  have h2' : ¬ fn.name = "runtime.NumGoroutine" := by simpa using h2
  simp only [h2, h3, Bool.false_eq_true, if_false, Sem.run]
  congr 2
  simp
theorem call_step (h : St n M W s a) {o : Oper} {f : FuncId} {args : List V} {vs : List Value} {bs : List Nat} {w : List Bool} {ans : Ans} (ha : All2 (SR2 M W) args vs) (hexec : (execOp a.eval o).run P W = .ok (.enter f vs.toArray) W)
    (hok : GenOK P f (argsG s bs w args) (bs.map s.cont) ans) (hc : (ansR ans bs w args s).c) : Step P n M W a o (ansR ans bs w args s) := by
  intro K Q hK
  have hc' := hc
  obtain ⟨c1, c2, c3, c4, c5, c6, c7⟩ := hc'
  have hUt : (given s w args ++ bs.flatMap (boxU s)).map tokU = (given s w args).flatMap tokG ++ bs.flatMap s.boxToks := by
    rw [List.map_append, given_tok]
    congr 1
    have : ∀ l : List Nat, (l.flatMap (boxU s)).map tokU = l.flatMap s.boxToks := by
      intro l
      induction l with
      | nil => rfl
      | cons b l ih => rw [List.flatMap_cons, List.flatMap_cons, List.map_append, ih, boxU_toks]
    exact this bs
  obtain ⟨e1, e2, e3⟩ := enter_ok h.mem ha c1 (fun k hk => List.all_eq_true.1 c2 k hk) (by rw [hUt]; exact c3) (by rw [hUt]; exact c4)
  have hcalls := hok.calls _ W vs e1 e2
  unfold Oper.wp
  rw [hexec]
  refine Calls.mono hcalls ?_
  rintro e W' ⟨v, M', s', sv, rfl, post⟩
  rw [List.length_map] at post
  obtain ⟨M'', k1, k2, k3⟩ := call_end h hc post e3
  exact hK M'' W' v k1 k2 k3
theorem renL_nil (v : V) : renL [] s v = showL s v := by
  cases v with
  | ptr b o => simp [renL, renP, showL]
  | fn f caps =>
    cases caps with
    | nil => simp [renL, showL]
    | cons c cs =>
      have : ¬ (c :: cs).all (isPtrIn []) = true := by
        cases c <;> simp [isPtrIn]
      simp only [renL, showL]
      rw [if_neg this]
  | _ => rfl
theorem argsG_nil (args : List V) : argsG s [] [] args = argsR s args := by
  induction args with
  | nil => rfl
  | cons x args ih =>
    simp only [argsG, argsR, List.map_cons]
    rw [ih]
    have : onL1 (renL [] s) x = onL1 (showL s) x := by
      cases x with
      | agg xs =>
        simp only [onL1]
        congr 1
        exact List.map_congr_left fun y _ => renL_nil y
      | _ => simp only [onL1]; exact renL_nil _
    rw [this]
    rfl
theorem kept_nil (args : List V) : kept [] args = args := by
  induction args with
  | nil => rfl
  | cons x args ih => simp only [kept, ih]
theorem ansR_nil (sh : Bool) (r : V) (args : List V) : (ansR ⟨sh, r, [], []⟩ [] [] args s).s = (ad r (if sh = true then s.stills (ftoks args) else s)).2 ∧ (ansR ⟨sh, r, [], []⟩ [] [] args s).v = (ad r (if sh = true then s.stills (ftoks args) else s)).1 ∧ (ansR ⟨sh, r, [], []⟩ [] [] args s).c := by
  have hg : given s [] args = [] := by cases args <;> rfl
  refine ⟨?_, ?_, ?_⟩
  · simp only [ansR, R.st, hg, kept_nil, List.flatMap_nil, S.drops, S.backs, S.fills]
  · simp only [ansR, R.st, hg, kept_nil, List.flatMap_nil, S.drops, S.backs, S.fills]
  · simp only [ansR, R.st, hg, kept_nil, List.flatMap_nil]
    simp [noLs]
def valV1 : V → Value
  | .agg xs => .agg (xs.map valL).toArray
  | v => valL v
def valV : V → Value
  | .tup xs => .tuple (xs.map valV1).toArray
  | v => valV1 v
theorem flatL_SR {x : V} (h : flatL x = true) : SRL M W x (valL x) := by
  cases x <;> first | rfl | simp [flatL] at h
theorem flatLs_SR : ∀ {xs : List V}, xs.all flatL = true → All2 (SRL M W) xs (xs.map valL)
  | [], _ => trivial
  | x :: xs, h => by
    simp only [List.all_cons, Bool.and_eq_true] at h
    exact ⟨flatL_SR h.1, flatLs_SR h.2⟩
theorem flat1_SR {x : V} (h : flat1 x = true) : SR1 M W x (valV1 x) := by
  cases x with
  | agg xs => exact ⟨_, rfl, flatLs_SR h⟩
  | _ => exact SR1_of_L' (flatL_SR h)
theorem flat1s_SR : ∀ {xs : List V}, xs.all flat1 = true → All2 (SR1 M W) xs (xs.map valV1)
  | [], _ => trivial
  | x :: xs, h => by
    simp only [List.all_cons, Bool.and_eq_true] at h
    exact ⟨flat1_SR h.1, flat1s_SR h.2⟩
theorem flat_SR {x : V} (h : flatV x = true) : SR2 M W x (valV x) := by
  cases x with
  | tup xs => exact ⟨_, rfl, flat1s_SR h⟩
  | _ => exact SR2_of_1' (flat1_SR h)
theorem close_flat {x : V} (h : flatL (closeL s x) = true) : closeL s x = x := by
  cases x with
  | own t =>
    exfalso
    simp only [closeL] at h
    cases hr : s.R t with
    | none => rw [hr] at h; simp [flatL] at h
    | some r =>
      obtain ⟨z, xs, wr⟩ := r
      rw [hr] at h
      cases wr <;> simp [flatL] at h
  | fn f caps => cases caps <;> simp [closeL, flatL] at h
  | _ => first | rfl | (simp [closeL, flatL] at h; done)
theorem flatL_val {x : V} {v : Value} (h : flatL (closeL s x) = true) (hs : SRL M W x v) : v = valL (closeL s x) := by
  have e := close_flat h
  rw [e] at h ⊢
  exact flat_val h hs
theorem flatLs_val : ∀ {xs : List V} {vs : List Value}, (xs.map (closeL s)).all flatL = true → All2 (SRL M W) xs vs → vs = (xs.map (closeL s)).map valL
  | [], [], _, _ => rfl
  | x :: xs, v :: vs, h, hs => by
    simp only [List.map_cons, List.all_cons, Bool.and_eq_true] at h
    rw [List.map_cons, List.map_cons, flatL_val h.1 hs.1, flatLs_val h.2 hs.2]
theorem flat1_val {x : V} {v : Value} (h : flat1 (closeB s 0 x) = true) (hs : SR1 M W x v) : v = valV1 (closeB s 0 x) := by
  by_cases hp : ∃ b o, x = .ptr b o
  · exfalso
    obtain ⟨b, o, rfl⟩ := hp
    unfold closeB at h
    split at h
    · split at h
      · split at h <;> simp [flat1, flatL] at h
      · simp [flat1, flatL] at h
    · simp [onL1, closeL, flat1, flatL] at h
  · have e0 : closeB s 0 x = onL1 (closeL s) x := by
      cases x <;> first | rfl | exact absurd ⟨_, _, rfl⟩ hp
    rw [e0] at h ⊢
    by_cases ha : ∃ xs, x = .agg xs
    · obtain ⟨xs, rfl⟩ := ha
      obtain ⟨vs, rfl, hs⟩ := hs
      simp only [onL1, flat1] at h ⊢
      simp only [valV1]
      rw [flatLs_val h hs]
    · have e1 : onL1 (closeL s) x = closeL s x := by cases x <;> first | rfl | exact absurd ⟨_, rfl⟩ ha
      have e2 : SR1 M W x v = SRL M W x v := by cases x <;> first | rfl | exact absurd ⟨_, rfl⟩ ha
      have hna := closeL_noAgg s x
      rw [e1] at h ⊢
      rw [e2] at hs
      generalize hy : closeL s x = y at h hna ⊢
      have e3 : flat1 y = flatL y := by cases y <;> first | rfl | exact absurd rfl (hna _)
      have e4 : valV1 y = valL y := by cases y <;> first | rfl | exact absurd rfl (hna _)
      rw [e3] at h
      rw [e4, ← hy]
      exact flatL_val (by rw [hy]; exact h) hs
theorem flat1s_val : ∀ {xs : List V} {vs : List Value}, (xs.map (closeB s 0)).all flat1 = true → All2 (SR1 M W) xs vs → vs = (xs.map (closeB s 0)).map valV1
  | [], [], _, _ => rfl
  | x :: xs, v :: vs, h, hs => by
    simp only [List.map_cons, List.all_cons, Bool.and_eq_true] at h
    rw [List.map_cons, List.map_cons, flat1_val h.1 hs.1, flat1s_val h.2 hs.2]
theorem closeB_noTup (s : S) (k : Nat) (x : V) (hx : ∀ xs, x ≠ .tup xs) : ∀ xs, closeB s k x ≠ .tup xs := by
  intro xs
  unfold closeB
  split
  · split
    · split <;> simp
    · simp
  · unfold onL1
    split
    · simp
    · unfold closeL
      split <;> (try split) <;> simp
theorem flatV_val {x : V} {v : Value} (h : flatV (closeR s 0 x) = true) (hs : SR2 M W x v) : v = valV (closeR s 0 x) := by
  by_cases ht : ∃ xs, x = .tup xs
  · obtain ⟨xs, rfl⟩ := ht
    obtain ⟨vs, rfl, hs⟩ := hs
    simp only [closeR, flatV] at h ⊢
    simp only [valV]
    rw [flat1s_val h hs]
  · have hx : ∀ xs, x ≠ .tup xs := fun xs e => ht ⟨xs, e⟩
    have e1 : closeR s 0 x = closeB s 0 x := by cases x <;> first | rfl | exact absurd ⟨_, rfl⟩ ht
    have e2 : SR2 M W x v = SR1 M W x v := by cases x <;> first | rfl | exact absurd ⟨_, rfl⟩ ht
    have hnt := closeB_noTup s 0 x hx
    rw [e1] at h ⊢
    rw [e2] at hs
    have e3 : flatV (closeB s 0 x) = flat1 (closeB s 0 x) := by
      generalize closeB s 0 x = y at hnt
      cases y <;> first | rfl | exact absurd rfl (hnt _)
    have e4 : valV (closeB s 0 x) = valV1 (closeB s 0 x) := by
      generalize closeB s 0 x = y at hnt
      cases y <;> first | rfl | exact absurd rfl (hnt _)
    rw [e3] at h
    rw [e4]
    exact flat1_val h hs
theorem caps_rel {caps : List V} {cs : List Value} (h : All2 (CapR M W) caps cs) : All2 (SR2 M W) caps cs := h.imp (by
  rintro x y (⟨b, off, rfl, hb, rfl⟩ | ⟨xs, i, off, rfl, hl⟩)
  · exact ⟨hb, rfl⟩
  · exact hl)
def Mem.ro (M : Mem) : Mem := { M with F := fun b => M.F b ∨ M.ω b ≠ none, ω := fun _ => none, nt := 0, nb := 0 }
theorem FR.toRo {x : V} {v : Value} (h : FR W M.F x v) : FR W M.ro.F x v := h.mono (fun _ _ => rfl) fun _ hb => .inl hb
theorem ro_show (h : MemOK M W s) {x : V} {v : Value} (hx : SRL M W x v) : SRL M.ro W (showL s x) v := by
  unfold showL
  split
  · rename_i t
    split
    · rename_i r hr
      obtain ⟨-, rfl⟩ := hx
      rcases (h.row t r hr).2 with ⟨hw', B, h1, h2, -⟩ | ⟨-, h1, -⟩
      · exact h1.fr (G := M.ro.F) (fun b hb => .inl hb) fun b hb => .inr (by rw [h2 b hb]; simp)
      · exact (FR.norm h1).toRo
    · trivial
  · rename_i t i o
    split
    · rename_i p hp
      obtain ⟨-, rfl⟩ := hx
      obtain ⟨r, h1, h2, h3⟩ := nest_spec hp
      obtain ⟨B, h4, h5⟩ := (h.row t r h1).2.nested h2 h3
      exact h4.fr (G := M.ro.F) (fun b hb => .inl hb) fun b hb => .inr (by rw [h5 b hb]; simp)
    · trivial
  · obtain ⟨rfl, A, rfl⟩ := hx
    exact .nil _ _
  · have hf : FR W M.F (.lst _) v := hx
    exact hf.norm.toRo
  · exact hx
  · exact hx
  · exact hx
  · exact hx
  · obtain ⟨cs, rfl, hc⟩ := hx
    cases cs with
    | nil => exact ⟨[], rfl, trivial⟩
    | cons => exact hc.elim
  · exact hx
  · exact hx
  · exact LadR.norm hx fun _ hb => .inl hb
  · trivial
theorem leaves_onL1 {f : V → V} (hf : ∀ x ys, f x ≠ .agg ys) (c : V) : leaves (onL1 f c) = (leaves c).map f := by
  by_cases hc : ∃ xs, c = .agg xs
  · obtain ⟨xs, rfl⟩ := hc
    rfl
  · have e1 : onL1 f c = f c := by cases c <;> first | rfl | exact absurd ⟨_, rfl⟩ hc
    rw [e1, leaves_ne hc, leaves_ne (fun ⟨ys, e⟩ => hf c ys e)]
    rfl
theorem frL_FR {x : V} {v : Value} (hl : frL x = true) (h : SRL M W x v) : FR W M.F (vw x) v := by
  cases x <;> simp only [frL, Bool.false_eq_true] at hl
  · have e : v = _ := h
    subst e
    exact .int _ _
  · have e : v = _ := h
    subst e
    exact .bool _
  · have e : v = _ := h
    subst e
    exact .str _
  · exact h
  · have e : v = _ := h
    subst e
    exact .raw _
theorem ro_ptr (h : MemOK M W s) {b off : Nat} {c : V} (hb : s.B b = some c) (hf : (leaves (onL1 (showL s) c)).all frL = true) : LadR M.ro.F W [onL1 (showL s) c] 0 off (.pointer (some ⟨M.β b, off, none⟩)) := by
  obtain ⟨-, cs, ty, h2, h3, h4⟩ := h.box b c hb
  have hl := leaves_onL1 (showL_noAgg s) c
  have hlen : (leaves (onL1 (showL s) c)).length = cs.size := by
    rw [hl, List.length_map, h4.length, Array.length_toList]
  have key : ∀ j i l, leafAt [onL1 (showL s) c] j i = some l → ∃ u, W.cell? ⟨M.β b, 0 + j * cs.size + i, none⟩ = some u ∧ cs[i]? = some u ∧ FR W M.ro.F (vw l) u := by
    intro j i l hl'
    unfold leafAt at hl'
    cases j with
    | succ j => simp at hl'
    | zero =>
      simp only [List.getElem?_cons_zero, Option.bind_some] at hl'
      have hm := List.mem_of_getElem? hl'
      have hfr := List.all_eq_true.1 hf l hm
      rw [hl, List.getElem?_map, Option.map_eq_some_iff] at hl'
      obtain ⟨l0, h5, rfl⟩ := hl'
      obtain ⟨u, h6, h7⟩ := h4.get i l0 h5
      rw [Array.getElem?_toList] at h6
      refine ⟨u, ?_, h6, frL_FR hfr (ro_show h h7)⟩
      rw [cell_of h2]
      simpa using h6
  refine ⟨M.β b, 0, 1, cs.size, ?_, ?_, fun j i l hl' => ?_, by simp, by simp⟩
  · refine FR.lst [onL1 (showL s) c] (M.β b) 0 1 cs.size (fun _ i => cs.getD i undef) (.inr (by rw [h3]; simp)) (by simp) (by simp [maxLen]) (by simpa using hlen) (fun j i l hl' => ?_) (fun j i l hl' => ?_)
    · obtain ⟨u, h5, h6, -⟩ := key j i l hl'
      rw [h5, Array.getD_eq_getD_getElem?, h6]
      rfl
    · obtain ⟨u, -, h6, h7⟩ := key j i l hl'
      rw [Array.getD_eq_getD_getElem?, h6]
      exact h7
  · simpa using hlen
  · obtain ⟨u, h5, -, h7⟩ := key j i l hl'
    exact ⟨u, h5, h7⟩
theorem ro_ladr {xs : List V} {i off : Nat} {v : Value} (h : LadR M.F W xs i off v) : LadR M.ro.F W (norms xs) i off v := by
  obtain ⟨b, o, c, sz, h1, h2, h3, h4, rfl⟩ := h
  refine ⟨b, o, c, sz, ?_, ?_, fun j k l hl => ?_, by rw [norms_length]; exact h4, rfl⟩
  · have := h1.norm.toRo
    simp only [norm] at this
    rw [norms_length]
    exact this
  · intro e he
    rw [norms_eq, List.mem_map] at he
    obtain ⟨e', h5, rfl⟩ := he
    rw [leaves_norm, List.length_map]
    exact h2 e' h5
  · obtain ⟨l', h5, rfl⟩ := leafAt_norms hl
    obtain ⟨u, h6, h7⟩ := h3 j k l' h5
    refine ⟨u, h6, ?_⟩
    rw [vw_norm]
    exact h7.norm.toRo
theorem ro_cap (h : MemOK M W s) {x : V} {v : Value} (hx : CapR M W x v) : showP s x = .bad ∨ CapR M.ro W (showP s x) v := by
  rcases hx with ⟨b, off, rfl, h1, rfl⟩ | ⟨xs, i, off, rfl, hl⟩
  · simp only [showP]
    split
    · rename_i c hb
      split
      · rename_i hf
        exact .inr (.inr ⟨_, _, _, rfl, ro_ptr h hb hf⟩)
      · exact .inl rfl
    · exact .inl rfl
  · exact .inr (.inr ⟨_, _, _, rfl, ro_ladr hl⟩)
end
end Go.TM
end
section
namespace Go.TM
open Go
section
variable {P : Program} {E : Env} {M : Mem} {W : World} {s : S} {n : Nat} {a : Act}
theorem ro_caps (h : MemOK M W s) : ∀ {caps : List V} {cs : List Value}, (caps.map (showP s)).all isLad = true → All2 (CapR M W) caps cs → All2 (CapR M.ro W) (caps.map (showP s)) cs
  | [], [], _, _ => trivial
  | c :: caps, v :: cs, hl, hr => by
    simp only [List.map_cons, List.all_cons, Bool.and_eq_true] at hl
    refine ⟨?_, ro_caps h hl.2 hr.2⟩
    rcases ro_cap h hr.1 with e | e
    · rw [e] at hl; simp [isLad] at hl
    · exact e
theorem ro_Q (h : MemOK M W s) {x : V} {v : Value} (hx : SRL M W x v) : SRL M.ro W (showQ s x) v := by
  unfold showQ
  split
  · rename_i b off
    obtain ⟨h1, rfl⟩ := hx
    rcases ro_cap (x := .ptr b off) h (.inl ⟨b, off, rfl, h1, rfl⟩) with e | ⟨_, _, e, _⟩ | ⟨xs, i, o, e, hl⟩
    · rw [e]; trivial
    · exfalso
      simp only [showP] at e
      split at e
      · split at e <;> cases e
      · cases e
    · rw [e]; exact hl
  · exact ro_ladr hx
  · obtain ⟨cs, rfl, hc⟩ := hx
    split
    · rename_i hl
      exact ⟨cs, rfl, ro_caps h hl hc⟩
    · trivial
  · exact ro_show h hx
theorem showP_adL (s : S) (x : V) (sc : S) : adL (showP s x) sc = (showP s x, sc) := by
  unfold showP
  split
  · split
    · split <;> rfl
    · rfl
  · rfl
  · rfl
theorem showL_adL (s : S) (x : V) (sc : S) : adL (showL s x) sc = (showL s x, sc) := by
  unfold showL
  repeat' split
  all_goals rfl
theorem showQ_adL (s : S) (x : V) (sc : S) : adL (showQ s x) sc = (showQ s x, sc) := by
  unfold showQ
  split
  · exact showP_adL _ _ _
  · exact showP_adL _ _ _
  · split <;> rfl
  · exact showL_adL _ _ _
theorem showQ_noAgg (s : S) (x : V) : ∀ ys, showQ s x ≠ .agg ys := by
  intro ys
  unfold showQ
  split
  · unfold showP; (repeat' split) <;> simp
  · unfold showP; (repeat' split) <;> simp
  · split <;> simp
  · exact showL_noAgg _ _ _
theorem showQ_adLs (s : S) : ∀ (xs : List V) (sc : S), adLs (xs.map (showQ s)) sc = (xs.map (showQ s), sc)
  | [], sc => rfl
  | x :: xs, sc => by
    simp only [List.map_cons, adLs]
    rw [showQ_adL, showQ_adLs s xs sc]
theorem showQ_adC (s : S) (x : V) (sc : S) : adC (onL1 (showQ s) x) sc = (onL1 (showQ s) x, sc) := by
  by_cases hx : ∃ xs, x = .agg xs
  · obtain ⟨xs, rfl⟩ := hx
    simp only [onL1, adC]
    rw [showQ_adLs]
  · have e1 : onL1 (showQ s) x = showQ s x := by cases x <;> first | rfl | exact absurd ⟨_, rfl⟩ hx
    rw [e1]
    have hna := showQ_noAgg s x
    have := showQ_adL s x sc
    generalize showQ s x = y at hna this
    cases y <;> first | exact this | exact absurd rfl (hna _)
theorem showQ_adCs (s : S) : ∀ (xs : List V) (sc : S), adCs (argsQ s xs) sc = (argsQ s xs, sc)
  | [], sc => rfl
  | x :: xs, sc => by
    have ih := showQ_adCs s xs sc
    simp only [argsQ] at ih ⊢
    simp only [List.map_cons, adCs]
    rw [showQ_adC, ih]
theorem ro_mem (h : MemOK M W s) (args : List V) : MemOK M.ro W (start (argsQ s args) []) := by
  have e : start (argsQ s args) [] = { S.zero with e := fun x => (argsQ s args).getD x (.tup []), B := fun i => ([] : List V)[i]?, nb := 0 } := by
    simp only [start, showQ_adCs, adCs, List.length_nil]
  rw [e]
  exact {
    nt := rfl
    nb := rfl
    box := fun b c hb => by simp at hb
    row := fun t r hr => by cases hr
    frz := fun b hb => ⟨rfl, by
      rcases hb with hb | hb
      · exact (h.frz b hb).2
      · cases e : M.ω b with
        | none => exact absurd e hb
        | some l => exact h.lt b l e⟩
    lt := fun b l hl => by cases hl
    tok := fun b t hl => by cases hl
    bx := fun b k hl => by cases hl }
theorem ro_arg (h : MemOK M W s) {x : V} {v : Value} (hx : SR2 M W x v) : SR1 M.ro W (onL1 (showQ s) x) v := by
  cases x with
  | tup xs => trivial
  | agg xs =>
    obtain ⟨vs, rfl, ha⟩ := hx
    exact ⟨vs, rfl, All2.map _ id (fun _ _ h' => ro_Q h h') ha |> fun h' => by simpa using h'⟩
  | _ =>
    simp only [SR2, SR1] at hx
    exact SR1_of_L' (ro_Q h hx)
theorem ro_args (h : MemOK M W s) {args : List V} {vs : List Value} (ha : All2 (SR2 M W) args vs) : All2 (SR1 M.ro W) (adCs (argsQ s args) S.zero).1 vs := by
  rw [showQ_adCs]
  simp only [argsQ]
  have := All2.map (S := SR1 M.ro W) (onL1 (showQ s)) id (fun _ _ h' => ro_arg h h') ha
  simpa using this
theorem call_quiet (env : EnvOK P E) (h : St n M W s a) {o : Oper} {c : Call} {g : Operand} (ho : o.op = .call c) (hg : c.callee = .value g)
    (hok : (g :: c.args.toList).all (okOp n) = true) (hn : needs true s (g :: c.args.toList))
    (hc : (valueR E (opnd s g) (c.args.toList.map (opnd s)) s).c) (hq : (valueR E (opnd s g) (c.args.toList.map (opnd s)) s).q = true) :
    QOK P n M W s a o (valueR E (opnd s g) (c.args.toList.map (opnd s)) s) := by
  have hn' := needs_cons.1 hn
  simp only [List.all_cons, Bool.and_eq_true] at hok
  have rel : ∀ w, Cls W w → SR2 M w (opnd s g) (a.eval g) ∧ All2 (SR2 M w) (c.args.toList.map (opnd s)) (c.args.toList.map a.eval) := fun w hw =>
    ⟨opnd_sound (h.cls hw) hok.1 hn'.1, opnds_sound (h.cls hw) hok.2 hn'.2⟩
  generalize hv : opnd s g = gv at *
  cases gv with
  | fn f caps =>
    have hgv := (rel W (RowKit.Below.refl _ _)).1
    obtain ⟨cs, hgv, hcaps⟩ := hgv
    simp only [valueR, callR] at hc hq ⊢
    cases hrw : E.rw f with
    | some w =>
      rw [hrw] at hc hq
      simp only [genR] at hc hq
      split at hc
      · rename_i ans hgen
        rw [hgen] at hq
        simp only [ansR, R.st] at hq
        cases hq
      · exact hc.elim
    | none =>
      rw [hrw] at hc hq
      simp only at hc hq ⊢
      cases hcall : E.call f (argsQ s (c.args.toList.map (opnd s) ++ caps)) with
      | none => rw [hcall] at hc; exact hc.elim
      | some x =>
        obtain ⟨sh, r⟩ := x
        rw [hcall] at hc hq
        simp only at hc hq ⊢
        by_cases hf : flatV r = true
        · rw [if_pos hf]
          have hok' := env.call _ _ _ _ hcall
          refine ⟨M, valV r, fun w hw => ?_, h, flat_SR hf, Evo.refl _ _, fun _ => ⟨rfl, rfl⟩⟩
          unfold Oper.quietAt
          rw [run_callv ho hg hgv hok'.has]
          refine ⟨rfl, ?_⟩
          have hcaps' : All2 (CapR M w) caps cs := by
            obtain ⟨cs2, e2, hc2⟩ := (rel w hw).1
            rw [hgv] at e2
            simp only [Value.func.injEq, true_and] at e2
            have e3 : cs = cs2 := congrArg Array.toList e2
            rw [e3]
            exact hc2
          have hargs : All2 (SR2 M w) (c.args.toList.map (opnd s) ++ caps) (c.args.toList.map a.eval ++ cs) := (rel w hw).2.append (caps_rel hcaps')
          have hst := h.cls hw
          refine (hok'.calls M.ro w _ (ro_mem hst.mem _) (ro_args hst.mem hargs)).mono ?_
          rintro e w'' ⟨v, M', s', sv, rfl, post⟩
          have hval := post.res
          have hvv : v = valV r := by
            have : flatV (closeR s' 0 sv) = true := by
              have e5 : closeR s' 0 sv = r := hval
              rw [e5]; exact hf
            have e6 := flatV_val this post.rel
            rw [e6]
            congr 1
          refine ⟨by rw [hvv], hw.trans (RowKit.Below.mono ?_ hw.size)⟩
          refine ⟨post.evo.os, post.evo.tape, post.evo.output, post.evo.size, fun b hb => post.evo.old b hb ?_⟩
          rfl
        · rw [if_neg hf] at hq
          cases hq
  | _ => exact hc.elim
theorem call_loud (env : EnvOK P E) (h : St n M W s a) {o : Oper} {c : Call} {g : Operand} (ho : o.op = .call c) (hg : c.callee = .value g)
    (hok : (g :: c.args.toList).all (okOp n) = true) (hn : needs true s (g :: c.args.toList))
    (hc : (valueR E (opnd s g) (c.args.toList.map (opnd s)) s).c) (hq : (valueR E (opnd s g) (c.args.toList.map (opnd s)) s).q = false) :
    Step P n M W a o (valueR E (opnd s g) (c.args.toList.map (opnd s)) s) := by
  have hn' := needs_cons.1 hn
  simp only [List.all_cons, Bool.and_eq_true] at hok
  have rel1 := opnd_sound h hok.1 hn'.1
  have rel2 := opnds_sound h hok.2 hn'.2
  generalize hv : opnd s g = gv at *
  cases gv with
  | fn f caps =>
    obtain ⟨cs, hgv, hcaps⟩ := rel1
    have hargs : All2 (SR2 M W) (c.args.toList.map (opnd s) ++ caps) (c.args.toList.map a.eval ++ cs) := rel2.append (caps_rel hcaps)
    simp only [valueR, callR] at hc hq ⊢
    cases hrw : E.rw f with
    | some w =>
      rw [hrw] at hc
      simp only [genR] at hc ⊢
      split at hc
      · rename_i ans hgen
        have hok' := env.gen _ _ _ _ hgen
        exact call_step h hargs (run_callv ho hg hgv hok'.has W) hok' hc
      · exact hc.elim
    | none =>
      rw [hrw] at hc hq
      simp only at hc hq ⊢
      cases hcall : E.call f (argsQ s (c.args.toList.map (opnd s) ++ caps)) with
      | none => rw [hcall] at hc; exact hc.elim
      | some x =>
        obtain ⟨sh, r⟩ := x
        rw [hcall] at hc hq
        simp only at hc hq ⊢
        by_cases hf : flatV r = true
        · rw [if_pos hf] at hq; cases hq
        · rw [if_neg hf] at hc ⊢
          have hok' := env.call _ _ _ _ hcall
          have hQR : argsQ s (c.args.toList.map (opnd s) ++ caps) = argsR s (c.args.toList.map (opnd s) ++ caps) := hc
          rw [hQR, ← argsG_nil] at hok'
          obtain ⟨k1, k2, k3⟩ := ansR_nil (s := s) sh r (c.args.toList.map (opnd s) ++ caps)
          intro K Q hK
          refine call_step h (bs := []) (w := []) hargs (run_callv ho hg hgv hok'.has W) hok' k3 K Q ?_
          intro M' W' val h1 h2 h3
          rw [k1] at h1
          rw [k2] at h2
          exact hK M' W' val h1 h2 h3
  | _ => exact hc.elim
end
end Go.TM
end
section
namespace Go.TM
open Go
def okO (n : Nat) (o : Oper) : Bool := o.op.operands.toList.all (okOp n) && o.dst.all (fun d => decide (d < n))
def okPlan (all : Array Oper) : Array Bool → List (Nat × Bool) → Bool
  | listed, [] => (Region.ready .any all listed).isEmpty
  | listed, (i, b) :: pl => (if b then Region.ready .any all listed == [i] else Region.free .any all listed i && (Region.ready .any all listed).contains i) && okPlan all (listed.setIfInBounds i true) pl
def edgeB (all : Array Oper) (q p : Nat) : Bool := (all[q]?).any fun o => o.after.toList.any fun e => Region.binds .any e && e.on == p
def pathB (all : Array Oper) (t0 : Nat) : Nat → Nat → Bool
  | 0, _ => false
  | f + 1, i => edgeB all t0 i || (List.range all.size).any fun q => edgeB all q i && pathB all t0 f q
def isMove (o : Oper) : Bool := match o.op, o.guard with
  | .move _, none => true
  | _, _ => false
def okRig (all : Array Oper) : Array Bool → List Nat → Option (Array Bool)
  | listed, [] => some listed
  | listed, i :: l => if (all[i]?).any isMove && Region.free .any all listed i && (Region.ready .any all listed).contains i then okRig all (listed.setIfInBounds i true) l else none
def okPre (all : Array Oper) : Array Bool → List (Nat × Bool) → Option (Array Bool)
  | listed, [] => some listed
  | listed, (i, b) :: l => if (if b then Region.ready .any all listed == [i] else Region.free .any all listed i && (Region.ready .any all listed).contains i) then okPre all (listed.setIfInBounds i true) l else none
def isRig (o : Oper) : Bool := match o.op, o.guard with
  | .move _, none => true
  | .extract _ _, none => true
  | _, _ => false
def clsOp (q : Bool) (o : Oper) : Bool := q || (match o.op with | .alloc _ => o.guard.isNone | _ => false)
def okCls (all : Array Oper) (q : Bool) (i : Nat) : Bool := (all[i]?).any (clsOp q)
def okEa (all : Array Oper) (kp : List Nat) (c q : Bool) (i : Nat) : Bool := if kp.contains i then c && okCls all q i else true
def okTB (all : Array Oper) : Array Bool → TT → Bool
  | listed, .done => (Region.ready .any all listed).isEmpty
  | listed, .one q i k => Region.ready .any all listed == [i] && okTB all (listed.setIfInBounds i true) k
  | listed, .two q i a q' j b => Region.ready .any all listed == [i, j] && okTB all (listed.setIfInBounds i true) a && okTB all (listed.setIfInBounds j true) b
  | listed, .three q i a q' j b q'' l d => Region.ready .any all listed == [i, j, l] && okTB all (listed.setIfInBounds i true) a && okTB all (listed.setIfInBounds j true) b && okTB all (listed.setIfInBounds l true) d
  | _, _ => false
def okTT (all : Array Oper) (kp : List Nat) : Bool → Array Bool → TT → Bool
  | _, listed, .done => (Region.ready .any all listed).isEmpty
  | c, listed, .one q i k => Region.ready .any all listed == [i] && okEa all kp c q i && okTT all kp (c && okCls all q i) (listed.setIfInBounds i true) k
  | c, listed, .two q i a q' j b => Region.ready .any all listed == [i, j] && okEa all kp c q i && okEa all kp c q' j && okTT all kp (c && okCls all q i) (listed.setIfInBounds i true) a && okTT all kp (c && okCls all q' j) (listed.setIfInBounds j true) b
  | c, listed, .three q i a q' j b q'' l d => Region.ready .any all listed == [i, j, l] && okEa all kp c q i && okEa all kp c q' j && okEa all kp c q'' l && okTT all kp (c && okCls all q i) (listed.setIfInBounds i true) a && okTT all kp (c && okCls all q' j) (listed.setIfInBounds j true) b && okTT all kp (c && okCls all q'' l) (listed.setIfInBounds l true) d
  | c, listed, .bare k => c && okTB all listed k
  | c, listed, .rig i k => (all[i]?).any isRig && Region.free .any all listed i && (Region.ready .any all listed).contains i && !kp.contains i && okTT all kp c (listed.setIfInBounds i true) k
def okCut (all : Array Oper) (p : Pl) : Bool :=
  let pre := p.pr.map (·.1)
  Region.noSelect all && decide (p.rg.length + pre.length + p.tt.depth ≤ all.size) &&
    (List.range all.size).all (fun j => p.rg.contains j || (pre ++ p.ea).contains j || p.la.contains j) &&
    pre.all (fun i => !p.la.contains i) && p.rg.all (fun i => !(pre ++ p.ea).contains i) && p.la.all (fun i => !p.rg.contains i) &&
    (match p.la with
      | [] => true
      | t0 :: tl => pre.isEmpty || pre.all (fun i => pathB all t0 all.size i) && tl.all (fun j => (t0 :: tl).any fun k => decide (k < j) && edgeB all j k)) &&
    (match okRig all (Array.replicate all.size false) p.rg with
      | some l1 => match okPre all l1 p.pr with
        | some l2 => okTT all (pre ++ p.ea) true l2 p.tt
        | none => false
      | none => false)
def okC (E : Env) (n : Nat) : Code → Bool
  | .region id ops dr => ops.toList.all (okO n) && (match dr, E.pln id, E.plan id with
    | true, some p, _ => okCut ops p
    | true, none, some pl => Region.noSelect ops && okPlan ops (Array.replicate ops.size false) pl && decide (pl.length ≤ ops.size)
    | true, none, none => Region.lexB .any ops
    | false, _, _ => true)
  | .seq a b => okC E n a && okC E n b
  | .cond c a b => okOp n c && okC E n a && okC E n b
  | .block _ c => okC E n c
  | .loop c => okC E n c
  | _ => true
section
variable {P : Program} {E : Env} {M : Mem} {W : World} {s : S} {n : Nat} {a : Act}
theorem all2_lo {lo : Option Operand} (h : St n M W s a) (hok : lo.all (okOp n) = true) (hn : needs true s lo.toList) : LoOk M W ((lo.map (opnd s)).getD (.int .i64 0)) (lo.map a.eval) := by
  cases lo with
  | none => exact .inl ⟨rfl, rfl⟩
  | some l => exact .inr ⟨_, rfl, opnd_sound h (by simpa using hok) (by simpa using hn)⟩
theorem all2_hi {hi : Option Operand} {x : V} (h : St n M W s a) (hok : hi.all (okOp n) = true) (hn : needs true s hi.toList) : HiOk M W s x ((hi.map (opnd s)).getD (highR x s)) (hi.map a.eval) := by
  cases hi with
  | none => exact .inl ⟨rfl, rfl⟩
  | some l => exact .inr ⟨_, rfl, opnd_sound h (by simpa using hok) (by simpa using hn)⟩
theorem caps_sound : ∀ {xs : List V} {vs : List Value}, xs.all isPtr = true → All2 (SR2 M W) xs vs → All2 (CapR M W) xs vs
  | [], [], _, _ => trivial
  | x :: xs, v :: vs, h, hr => by
    simp only [List.all_cons, Bool.and_eq_true] at h
    obtain ⟨h1, h2⟩ := h
    refine ⟨?_, caps_sound h2 hr.2⟩
    cases x with
    | ptr b off => exact .inl ⟨b, off, rfl, hr.1.1, hr.1.2⟩
    | _ => simp [isPtr] at h1
theorem appendR_q {tt : Option TI} {x y : V} {s : S} (hq : (appendR tt x y s).q = true) (hc : (appendR tt x y s).c) : False := by
  generalize hr : appendR tt x y s = r at hq hc
  unfold appendR at hr
  repeat' split at hr
  all_goals (subst hr; first | exact hc.elim | simp [R.st] at hq)
theorem storeR_q {tt : Option TI} {x y : V} {s : S} (hq : (storeR tt x y s).q = true) (hc : (storeR tt x y s).c) : False := by
  generalize hr : storeR tt x y s = r at hq hc
  unfold storeR at hr
  repeat' split at hr
  all_goals (subst hr; first | exact hc.elim | simp [R.st] at hq)
theorem nil_run (t e : TypeId) (hu : P.underlying t = some (.slice e)) (op : BinOp) (ox oy : Operand) (A : Option Addr) (m c : Nat) (w : World) (n : Bool) (ho : (op = .eql ∧ n = false) ∨ (op = .neq ∧ n = true)) :
    (do eqGuard op t ox oy (.slice A m c) (.slice none 0 0); binOp op t (.slice A m c) (.slice none 0 0) : Sem Value).run P w = .ok (.bool (A.isNone != n)) w := by
  have hg : (eqGuard op t ox oy (.slice A m c) (.slice none 0 0)).run P w = .ok () w := by
    rcases ho with ⟨rfl, -⟩ | ⟨rfl, -⟩ <;> rfl
  rw [Sem.run_bind, hg]
  simp only [Result.andThen]
  rcases ho with ⟨rfl, rfl⟩ | ⟨rfl, rfl⟩
  · simp only [binOp]
    simp [run_equal_slice_nil w t e A m c hu]
  · rw [run_neq_slice_nil w t e A m c hu]
    simp
theorem nilB_ok {n : Bool} {xs : List V} {A : Option Addr} (h : xs ≠ [] → A.isNone = false) : SR2 M W (nilB n xs) (.bool (A.isNone != n)) := by
  cases xs with
  | nil => exact ⟨_, rfl⟩
  | cons x xs =>
    show Value.bool _ = .bool n
    rw [h (by simp)]
    simp
theorem nilcmp_pure (sta : StaOK P E) (h : St n M W s a) (op : BinOp) (t : TypeId) (ox oy : Operand) {x : V} {v : Value} (hx : SR2 M W x v) :
    Pur P M W s (nilCmpR E op t x s) (do eqGuard op t ox oy v (.slice none 0 0); binOp op t v (.slice none 0 0)) := by
  have lst : ∀ {xs : List V} {F : Nat → Prop} {v : Value}, FR W F (.lst xs) v → ∃ A m c, v = .slice A m c ∧ (xs ≠ [] → A.isNone = false) := by
    intro xs F v hf
    cases hf with
    | nil A c => exact ⟨A, 0, c, rfl, fun h => absurd rfl h⟩
    | lst => exact ⟨_, _, _, rfl, fun _ => rfl⟩
  have row : ∀ {r : Nat} {w : Rw} {v : Value}, s.R r = some w → SRL M W (.own r) v → ∃ A m c, v = .slice A m c ∧ (w.xs ≠ [] → A.isNone = false) := by
    intro r w v hr hv
    obtain ⟨-, rfl⟩ := hv
    rcases (h.mem.row r w hr).2 with ⟨-, B, h1, -, -⟩ | ⟨-, h1, -⟩
    · cases hw : w.xs with
      | nil =>
        rw [hw] at h1
        generalize M.ρ r = v at h1
        cases h1 with
        | nil => exact ⟨_, _, _, rfl, fun h => absurd rfl h⟩
        | row => exact ⟨_, _, _, rfl, fun h => absurd rfl h⟩
      | cons y ys =>
        rw [hw] at h1
        generalize M.ρ r = v at h1
        cases h1 with
        | row => exact ⟨_, _, _, rfl, fun _ => rfl⟩
    · exact lst h1
  unfold nilCmpR
  split
  · refine Pur.if_ fun hs => ?_
    obtain ⟨e, he⟩ := Option.isSome_iff_exists.1 hs
    obtain ⟨A, m, c, rfl, hA⟩ := lst hx
    exact ⟨_, fun w _ => nil_run t e (sta.el t e he) _ ox oy A m c w false (.inl ⟨rfl, rfl⟩), nilB_ok hA⟩
  · refine Pur.if_ fun hs => ?_
    obtain ⟨e, he⟩ := Option.isSome_iff_exists.1 hs
    obtain ⟨A, m, c, rfl, hA⟩ := lst hx
    exact ⟨_, fun w _ => nil_run t e (sta.el t e he) _ ox oy A m c w true (.inr ⟨rfl, rfl⟩), nilB_ok hA⟩
  · split
    · rename_i w hr
      refine Pur.if_ fun hs => ?_
      obtain ⟨e, he⟩ := Option.isSome_iff_exists.1 hs
      obtain ⟨A, m, c, rfl, hA⟩ := row hr hx
      exact ⟨_, fun w _ => nil_run t e (sta.el t e he) _ ox oy A m c w false (.inl ⟨rfl, rfl⟩), nilB_ok hA⟩
    · exact Pur.no _
  · split
    · rename_i w hr
      refine Pur.if_ fun hs => ?_
      obtain ⟨e, he⟩ := Option.isSome_iff_exists.1 hs
      obtain ⟨A, m, c, rfl, hA⟩ := row hr hx
      exact ⟨_, fun w _ => nil_run t e (sta.el t e he) _ ox oy A m c w true (.inr ⟨rfl, rfl⟩), nilB_ok hA⟩
    · exact Pur.no _
  · exact Pur.no _
theorem nili_run (t : TypeId) (ms) (hu : P.underlying t = some (.interface ms)) (op : BinOp) (ox oy : Operand) (hoy : oy = .const .nilIface) (w : World) (n : Bool) (ho : (op = .eql ∧ n = true) ∨ (op = .neq ∧ n = false)) :
    (do eqGuard op t ox oy .nilIface .nilIface; binOp op t .nilIface .nilIface : Sem Value).run P w = .ok (.bool n) w := by
  subst hoy
  have hg : (eqGuard op t ox (.const .nilIface) .nilIface .nilIface).run P w = .ok () w := by
    rcases ho with ⟨rfl, -⟩ | ⟨rfl, -⟩ <;> simp [eqGuard]
  have he : (Op.equal t .nilIface .nilIface).run P w = .ok true w := by
    show (Op.equalIn (9999 + 1) t .nilIface .nilIface).run P w = _
    unfold Op.equalIn
    rw [Sem.run_bind, run_und hu]
    rfl
  rw [Sem.run_bind, hg]
  simp only [Result.andThen]
  rcases ho with ⟨rfl, rfl⟩ | ⟨rfl, rfl⟩
  · show (do pure (Value.bool (← Op.equal t .nilIface .nilIface)) : Sem Value).run P w = _
    rw [Sem.run_bind, he]
    rfl
  · show (do pure (Value.bool (!(← Op.equal t .nilIface .nilIface))) : Sem Value).run P w = _
    rw [Sem.run_bind, he]
    rfl
theorem nili_pure (sta : StaOK P E) (op : BinOp) (t : TypeId) (ox oy : Operand) (hoy : oy = .const .nilIface) {x : V} {v : Value} (hx : SR2 M W x v) :
    Pur P M W s (nilIR E op t x s) (do eqGuard op t ox oy v .nilIface; binOp op t v .nilIface) := by
  unfold nilIR
  split
  · refine Pur.if_ fun hs => ?_
    obtain ⟨ms, hu⟩ := sta.ifc t hs
    obtain rfl : v = .nilIface := hx
    exact ⟨_, fun w _ => nili_run t ms hu _ ox oy hoy w true (.inl ⟨rfl, rfl⟩), rfl⟩
  · refine Pur.if_ fun hs => ?_
    obtain ⟨ms, hu⟩ := sta.ifc t hs
    obtain rfl : v = .nilIface := hx
    exact ⟨_, fun w _ => nili_run t ms hu _ ox oy hoy w false (.inr ⟨rfl, rfl⟩), rfl⟩
  · exact Pur.no _
theorem opQ (env : EnvOK P E) (h : St n M W s a) (o : Oper) (hok : o.op.operands.toList.all (okOp n) = true) (hn : needs true s o.op.operands.toList)
    (hc : (opR E s o.type o.op).c) (hq : (opR E s o.type o.op).q = true) : QOK P n M W s a o (opR E s o.type o.op) := by
  have one : ∀ {x}, x ∈ o.op.operands.toList → SR2 M W (opnd s x) (a.eval x) := fun hx => opnd_sound h (List.all_eq_true.1 hok _ hx) (needs_mem hn hx)
  cases ho : o.op <;> simp only [ho] at hc hq hok hn one ⊢ <;> try exact hc.elim
  case move x => exact move_quiet h (fun w => by simp only [execOp, ho]; rfl) (one (by simp [Op.operands])) hc
  case assign x => exact move_quiet h (fun w => by simp only [execOp, ho]; rfl) (one (by simp [Op.operands])) hc
  case binOp op t x y t' =>
    by_cases hy : y = .const (.slice none 0 0)
    · subst hy
      exact QOK.pur h (fun w => by simp only [execOp, ho]; rfl) (nilcmp_pure env.toStaOK h op t x (.const (.slice none 0 0)) (one (by simp [Op.operands]))) hc
    by_cases hy2 : y = .const .nilIface
    · subst hy2
      exact QOK.pur h (fun w => by simp only [execOp, ho]; rfl) (nili_pure env.toStaOK op t x (.const .nilIface) (by simp) (one (by simp [Op.operands]))) hc
    have hb : opR E s o.type (.binOp op t x y t') = binR E op t (opnd s x) (opnd s y) s := by
      simp only [opR]
    rw [hb] at hc ⊢
    exact QOK.pur h (fun w => by simp only [execOp, ho]) (bin_sound env.toStaOK op t x y (one (by simp [Op.operands])) (one (by simp [Op.operands]))) hc
  case unOp op t x => exact QOK.pur h (fun w => by simp only [execOp, ho]) (un_pure op (one (by simp [Op.operands]))) hc
  case index t x y => exact QOK.pur h (fun w => by simp only [execOp, ho]) (index_pure env.toStaOK t (one (by simp [Op.operands])) (one (by simp [Op.operands]))) hc
  case indexAddr t x y => exact QOK.pur h (fun w => by simp only [execOp, ho]) (indexAddr_pure env.toStaOK h t (one (by simp [Op.operands])) (one (by simp [Op.operands]))) hc
  case fieldAddr t x f => exact QOK.pur h (fun w => by simp only [execOp, ho]) (fieldAddr_pure env.toStaOK t f (one (by simp [Op.operands]))) hc
  case field t x f => exact QOK.pur h (fun w => by simp only [execOp, ho]) (field_pure env.toStaOK t f (one (by simp [Op.operands]))) hc
  case load t x => exact QOK.pur h (fun w => by simp only [execOp, ho]) (load_pure env.toStaOK h t (one (by simp [Op.operands]))) hc
  case extract x k => exact QOK.pur h (fun w => by simp only [execOp, ho]) (extract_pure k (one (by simp [Op.operands]))) hc
  case convert t u x => exact QOK.pur h (fun w => by simp only [execOp, ho]) (conv_pure env.toStaOK h t u (one (by simp [Op.operands])) hq hc) hc
  case build t parts =>
    have e : (Op.build t parts).operands.toList = parts.toList.map (·.2) := by simp [Op.operands]
    rw [e] at hok hn
    exact build_quiet env.toStaOK h ho hok hn hc
  case alloc t =>
    exfalso
    simp only [opR] at hc hq
    generalize hr : allocR (E.ti t) s = r at hq hc
    unfold allocR at hr
    split at hr <;> subst hr <;> first | exact hc.elim | simp [R.st] at hq
  case box t x =>
    exfalso
    simp only [opR] at hc hq
    generalize hr : boxOpR (E.ti t) (opnd s x) s = r at hq hc
    unfold boxOpR at hr
    split at hr <;> subst hr <;> first | exact hc.elim | simp [R.st] at hq
  case store t x y => simp only [opR] at hc hq; exact (storeR_q hq hc).elim
  case buildSlice t k ps =>
    exfalso
    simp only [opR] at hc hq
    generalize hr : buildSliceR ((E.el t).bind E.ti) k (ps.toList.map fun p => (p.1, opnd s p.2)) s = r at hq hc
    unfold buildSliceR at hr
    split at hr <;> subst hr <;> first | exact hc.elim | simp [R.st] at hq
  case makeSlice t x y =>
    exfalso
    simp only [opR] at hc hq
    generalize hr : makeSliceR ((E.el t).bind E.ti) (opnd s x) (opnd s y) s = r at hq hc
    unfold makeSliceR at hr
    split at hr <;> subst hr <;> first | exact hc.elim | simp [R.st] at hq
  case nilCheck x =>
    obtain ⟨h1, h2, h3, ad, h4⟩ := nil_pure (s := s) (one (x := x) (by simp [Op.operands])) hc
    refine ⟨M, a.eval x, fun w hw => quietAt_value ?_, ?_, h3, Evo.refl _ _, fun _ => ⟨h1, rfl⟩⟩
    · simp only [execOp, ho, h4]; rfl
    · simp only [opR, h1]; exact h
  case makeFunc fn fs cs =>
    cases fn with
    | func f =>
      simp only [opR] at hc ⊢
      cases hfs : fs.toList with
      | cons f0 fs0 =>
        simp only [hfs] at hc
        exact hc.elim
      | nil =>
        simp only [hfs] at hc ⊢
        refine QOK.pur h (x := pure (.func (.func f) #[] (cs.toList.map a.eval).toArray)) (fun w => ?_) (Pur.if_ fun hp => ⟨_, fun w _ => rfl, ?_⟩) hc
        · simp only [execOp, ho]
          congr 2
          simp only [Instr.makeFunc]
          congr 2
          · rw [Array.toList_eq_nil_iff.1 hfs]; simp
          · exact Array.ext' (by simp)
        · have hn' : needs true s cs.toList := by simpa [Op.operands, Array.toList_eq_nil_iff.1 hfs] using hn
          have hok' : cs.toList.all (okOp n) = true := by simpa [Op.operands, Array.toList_eq_nil_iff.1 hfs] using hok
          exact ⟨_, rfl, caps_sound hp (opnds_sound h hok' hn')⟩
    | _ => exact hc.elim
  case slice t x lo hi mx =>
    cases mx with
    | some m =>
      cases lo with
      | some l => exact hc.elim
      | none =>
        cases hi with
        | none => exact hc.elim
        | some hh =>
          simp only [opR] at hc ⊢
          exact cut0_quiet env.toStaOK h (fun w => by simp only [execOp, ho]; rfl) (one (by simp [Op.operands])) (one (by simp [Op.operands])) (one (by simp [Op.operands])) hc
    | none =>
      have hn' : needs true s ([x] ++ lo.toList ++ hi.toList) := by simpa [Op.operands] using hn
      have hok' : ([x] ++ lo.toList ++ hi.toList).all (okOp n) = true := by simpa [Op.operands] using hok
      have n3 : ∀ z, z ∈ [x] ++ lo.toList ++ hi.toList → needs true s [z] := fun z hz => needs_mem hn' hz
      have o3 : ∀ z, z ∈ [x] ++ lo.toList ++ hi.toList → okOp n z = true := fun z hz => List.all_eq_true.1 hok' z hz
      have hx := opnd_sound h (o3 x (by simp)) (n3 x (by simp))
      have hlo : LoOk M W ((lo.map (opnd s)).getD (.int .i64 0)) (lo.map a.eval) := by
        refine all2_lo h ?_ ?_
        · cases lo with
          | none => rfl
          | some l => exact o3 l (by simp)
        · cases lo with
          | none => trivial
          | some l => exact n3 l (by simp)
      have hhi : HiOk M W s (opnd s x) ((hi.map (opnd s)).getD (highR (opnd s x) s)) (hi.map a.eval) := by
        refine all2_hi h ?_ ?_
        · cases hi with
          | none => rfl
          | some l => exact o3 l (by simp)
        · cases hi with
          | none => trivial
          | some l => exact n3 l (by simp)
      have hr : ∀ w, (execOp a.eval o).run P w = (do pure (Next.value (← Instr.sliceAt t (a.eval x) (lo.map a.eval) (hi.map a.eval) none)) : Sem Next).run P w := fun w => by simp only [execOp, ho]; rfl
      simp only [opR] at hc ⊢
      generalize (hi.map (opnd s)).getD (highR (opnd s x) s) = hv at *
      generalize (lo.map (opnd s)).getD (.int .i64 0) = lv at *
      generalize opnd s x = xv at *
      by_cases hown : ∃ r z xs, xv = .own r ∧ s.R r = some ⟨z, xs, true⟩
      · obtain ⟨r, z, xs, rfl, hR⟩ := hown
        exact cut_quiet env.toStaOK h hR hx hlo hhi hr hc
      · exact QOK.pur h hr (cut_pure env.toStaOK h t hx hlo hhi fun r z xs e1 e2 => hown ⟨r, z, xs, e1, e2⟩) hc
  case call c =>
    cases hcal : c.callee with
    | value g =>
      simp only [opR, hcal] at hc hq ⊢
      refine call_quiet env h ho hcal ?_ ?_ hc hq
      · simpa [Op.operands, Call.operands, hcal] using hok
      · simpa [Op.operands, Call.operands, hcal] using hn
    | builtin b =>
      cases b <;> simp only [opR, hcal] at hc hq ⊢ <;> try exact hc.elim
      case append =>
        exfalso
        split at hc
        · rename_i x y t t' hx ht
          simp only [hx, ht] at hq
          split at hc
          · rename_i he; simp only [if_pos he] at hq; exact appendR_q hq hc
          · exact hc.elim
        · exact hc.elim
      case len =>
        split at hc
        · rename_i x t hx ht
          simp only [hx, ht] at hq ⊢
          have hx' : c.args = #[x] := by rw [← Array.toList_inj, hx]
          have ht' : c.argTypes = #[t] := by rw [← Array.toList_inj, ht]
          refine QOK.pur h (x := Builtin.len_ #[t] o.type #[a.eval x]) (fun w => ?_) (len_pure env.toStaOK h t o.type (one (by simp [Op.operands, Call.operands, hcal, hx']))) hc
          simp only [execOp, ho, resolve, hcal, pure_bind, invoke, builtin, hx', ht']
          simp
        · exact hc.elim
    | invoke r m => simp only [opR, hcal] at hc; exact hc.elim
end
end Go.TM
end
section
namespace Go.TM
open Go
section
variable {P : Program} {E : Env} {M : Mem} {W : World} {s : S} {n : Nat} {a : Act}
theorem adR_q (ty : Option Nat) (v : V) (s : S) : (adR ty v s).q = true := by
  unfold adR
  repeat' split
  all_goals rfl
theorem binR_q (E : Env) (op : BinOp) (t : TypeId) (x y : V) (s : S) : (binR E op t x y s).q = true := by
  unfold binR
  repeat' split
  all_goals rfl
theorem nilCmpR_q (E : Env) (op : BinOp) (t : TypeId) (x : V) (s : S) : (nilCmpR E op t x s).q = true := by
  unfold nilCmpR
  repeat' split
  all_goals rfl
theorem unR_q (op : UnOp) (x : V) (s : S) : (unR op x s).q = true := by
  unfold unR
  repeat' split
  all_goals rfl
theorem indexR_q (E : Env) (t : TypeId) (x y : V) (s : S) : (indexR E t x y s).q = true := by
  unfold indexR
  repeat' split
  all_goals rfl
theorem indexAddrR_q (E : Env) (t : TypeId) (x y : V) (s : S) : (indexAddrR E t x y s).q = true := by
  unfold indexAddrR
  repeat' split
  all_goals rfl
theorem fieldAddrR_q (E : Env) (t : TypeId) (x : V) (f : Nat) (s : S) : (fieldAddrR E t x f s).q = true := by
  unfold fieldAddrR
  repeat' split
  all_goals rfl
theorem optR_q (x : Option V) (s : S) : (optR x s).q = true := by
  unfold optR
  repeat' split
  all_goals rfl
theorem fieldR_q (E : Env) (t : TypeId) (x : V) (f : Nat) (s : S) : (fieldR E t x f s).q = true := by
  unfold fieldR
  repeat' split
  all_goals first | rfl | exact optR_q _ _
theorem loadR_q (E : Env) (t : TypeId) (x : V) (s : S) : (loadR E t x s).q = true := by
  unfold loadR
  repeat' split
  all_goals first | rfl | exact optR_q _ _
theorem nilR_q (x : V) (s : S) : (nilR x s).q = true := by
  unfold nilR
  repeat' split
  all_goals rfl
theorem extractR_q (x : V) (k : Nat) (s : S) : (extractR x k s).q = true := by
  unfold extractR
  repeat' split
  all_goals first | rfl | exact optR_q _ _
theorem cutR_q (E : Env) (t : TypeId) (x l h : V) (s : S) : (cutR E t x l h s).q = true := by
  unfold cutR
  repeat' split
  all_goals rfl
theorem cut0R_q (E : Env) (t : TypeId) (x l h : V) (s : S) : (cut0R E t x l h s).q = true := by
  unfold cut0R
  repeat' split
  all_goals rfl
theorem lenR_q (E : Env) (t : TypeId) (x : V) (s : S) : (lenR E t x s).q = true := by
  unfold lenR
  repeat' split
  all_goals rfl
theorem buildR_q (E : Env) (t : TypeId) (ps : List (Nat × V)) (s : S) : (buildR E t ps s).q = true := by
  unfold buildR
  repeat' split
  all_goals rfl
theorem convR_q (E : Env) (t u : TypeId) (x : V) (s : S) (h : ∀ b, x ≠ .str b) : (convR E t u x s).q = true := by
  unfold convR
  split
  · split <;> rfl
  · exact absurd rfl (h _)
  · repeat' split
    all_goals rfl
  · rfl
theorem bytes_sound (sta : StaOK P E) (h : St n M W s a) {o : Oper} {t u : TypeId} {x : Operand} (ho : o.op = .convert t u x) (hx : SR2 M W (opnd s x) (a.eval x))
    (hc : (convR E t u (opnd s x) s).c) (hq : (convR E t u (opnd s x) s).q = false) : Step P n M W a o (convR E t u (opnd s x) s) := by
  generalize opnd s x = xv at *
  by_cases hstr : ∃ b, xv = .str b
  · obtain ⟨b, rfl⟩ := hstr
    obtain ⟨⟨h1, h2⟩, h3⟩ := hc
    rw [Option.bind_eq_some_iff] at h2
    obtain ⟨e, he, hk⟩ := h2
    have ex : a.eval x = .string b := hx
    have hrun := Go.Lib.run_convert_string_bytes (P := P) W t u e b (sta.str t h1) (sta.el u e he) (sta.int e _ hk)
    intro K Q hK
    refine wp_value (W' := Go.Lib.bytesWorld W e b) (val := .slice (some ⟨W.heap.size, 0, none⟩) b.size (grownCap W b.size 0 e)) ?_ ?_
    · simp only [execOp, ho, ex]
      rw [Sem.run_bind, hrun]
      rfl
    · have hold : ∀ j, j < W.heap.size → (Go.Lib.bytesWorld W e b).heap[j]? = W.heap[j]? := fun j hj => Go.Lib.bytesWorld_at_old W e b j hj
      have hsz := Go.Lib.bytesWorld_size W e b
      have hnew : M.ω W.heap.size = none := by
        cases hm : M.ω W.heap.size with
        | none => rfl
        | some l => exact absurd (h.mem.lt _ _ hm) (Nat.lt_irrefl _)
      have hk' : Keep M W { M with F := fun j => M.F j ∨ j = W.heap.size } (Go.Lib.bytesWorld W e b) :=
        ⟨fun _ hb => .inl hb, fun j hj => hold j (h.mem.frz j hj).2, fun _ _ => rfl, fun _ _ _ _ => rfl, fun _ _ => rfl, Nat.le_refl _, Nat.le_refl _⟩
      refine hK { M with F := fun j => M.F j ∨ j = W.heap.size } (Go.Lib.bytesWorld W e b) _ ⟨h.size, h.defers, fun y hy => hk'.all (h.slot y hy), ?_⟩ ?_ ?_
      · exact {
          nt := h.mem.nt
          nb := h.mem.nb
          box := fun j c hb => by
            obtain ⟨k1, cs, ty, k2, k3, k4⟩ := h.mem.box j c hb
            exact ⟨k1, cs, ty, (hold _ (h.mem.lt _ _ k3)).trans k2, k3, hk'.leaves k4⟩
          row := fun t r hr => ⟨(h.mem.row t r hr).1, hk'.row (h.mem.row t r hr).1 (fun _ j hj => ⟨hj, hold j (h.mem.lt j _ hj)⟩) (h.mem.row t r hr).2⟩
          frz := fun j hj => by
            rcases hj with hj | rfl
            · exact ⟨(h.mem.frz j hj).1, by rw [hsz]; exact Nat.lt_succ_of_lt (h.mem.frz j hj).2⟩
            · exact ⟨hnew, by rw [hsz]; omega⟩
          lt := fun j l hj => by
            have := h.mem.lt j l hj
            rw [hsz]
            omega
          tok := h.mem.tok
          bx := h.mem.bx }
      · have hlen : (b.data.toList.map fun y => V.int .u8 y.toNat).length = b.size := by
          rw [List.length_map, Array.length_toList]
          rfl
        have key := FR.lst (W := Go.Lib.bytesWorld W e b) (F := fun j => M.F j ∨ j = W.heap.size) (b.data.toList.map fun y => V.int .u8 y.toNat) W.heap.size 0 (grownCap W b.size 0 e) 1 (fun j _ => .int .u8 (b.data.toList.getD j 0).toNat) (.inr rfl)
          (by rw [hlen]; exact grownCap_ge W b.size 0 e) (by rw [hlen]; simp only [maxLen]; omega)
          (fun y hy => by
            obtain ⟨z, _, rfl⟩ := List.mem_map.1 hy
            rfl)
          (fun j i l hl => by
            unfold leafAt at hl
            rw [List.getElem?_map] at hl
            cases hz : b.data.toList[j]? with
            | none => rw [hz] at hl; cases hl
            | some z =>
              rw [hz] at hl
              cases i with
              | zero =>
                have hjs : j < b.size := by
                  have := (List.getElem?_eq_some_iff.1 hz).1
                  rwa [Array.length_toList] at this
                have := Go.Lib.bytesWorld_cell W e b j hjs
                simpa using this
              | succ i => simp [leaves] at hl)
          (fun j i l hl => by
            unfold leafAt at hl
            rw [List.getElem?_map] at hl
            cases hz : b.data.toList[j]? with
            | none => rw [hz] at hl; cases hl
            | some z =>
              rw [hz] at hl
              cases i with
              | zero =>
                simp only [Option.map_some, Option.bind_some, leaves, List.getElem?_cons_zero, Option.some.injEq] at hl
                subst hl
                simp only [List.getD_eq_getElem?_getD, hz, Option.getD_some]
                exact .int _ _
              | succ i => simp [leaves] at hl)
        rw [hlen] at key
        exact key
      · exact ⟨rfl, rfl, rfl, by rw [hsz]; omega, fun j hj _ => hold j hj, fun j l hl => .inl (by simp [show M.ω j = some l from hl]), fun j hj => by
          rcases hj with hj | rfl
          · exact .inl hj
          · exact .inr (.inr (Nat.le_refl _)), fun _ hb => .inl hb, Nat.le_refl _, Nat.le_refl _, fun _ _ => rfl, fun _ _ => rfl⟩
  · rw [convR_q E t u xv s fun b e => hstr ⟨b, e⟩] at hq
    cases hq
theorem nilIR_q (E : Env) (op : BinOp) (t : TypeId) (x : V) (s : S) : (nilIR E op t x s).q = true := by
  unfold nilIR
  repeat' split
  all_goals rfl
theorem opN (env : EnvOK P E) (h : St n M W s a) (o : Oper) (hok : o.op.operands.toList.all (okOp n) = true) (hn : needs true s o.op.operands.toList)
    (hc : (opR E s o.type o.op).c) (hq : (opR E s o.type o.op).q = false) : Step P n M W a o (opR E s o.type o.op) := by
  have one : ∀ {x}, x ∈ o.op.operands.toList → SR2 M W (opnd s x) (a.eval x) := fun hx => opnd_sound h (List.all_eq_true.1 hok _ hx) (needs_mem hn hx)
  cases ho : o.op <;> simp only [ho] at hc hq hok hn one ⊢ <;> try exact hc.elim
  case move x => simp only [opR, adR_q] at hq; cases hq
  case assign x => simp only [opR, adR_q] at hq; cases hq
  case binOp op t x y t' =>
    by_cases hy : y = .const (.slice none 0 0)
    · subst hy
      have := nilCmpR_q E op t (opnd s x) s
      rw [show opR E s o.type (.binOp op t x (.const (.slice none 0 0)) t') = nilCmpR E op t (opnd s x) s from rfl, this] at hq
      cases hq
    by_cases hy2 : y = .const .nilIface
    · subst hy2
      have := nilIR_q E op t (opnd s x) s
      rw [show opR E s o.type (.binOp op t x (.const .nilIface) t') = nilIR E op t (opnd s x) s from rfl, this] at hq
      cases hq
    · rw [show opR E s o.type (.binOp op t x y t') = binR E op t (opnd s x) (opnd s y) s by simp only [opR], binR_q] at hq
      cases hq
  case unOp op t x => simp only [opR, unR_q] at hq; cases hq
  case index t x y => simp only [opR, indexR_q] at hq; cases hq
  case indexAddr t x y => simp only [opR, indexAddrR_q] at hq; cases hq
  case fieldAddr t x f => simp only [opR, fieldAddrR_q] at hq; cases hq
  case field t x f => simp only [opR, fieldR_q] at hq; cases hq
  case load t x => simp only [opR, loadR_q] at hq; cases hq
  case nilCheck x => simp only [opR, nilR_q] at hq; cases hq
  case extract x k => simp only [opR, extractR_q] at hq; cases hq
  case convert t u x =>
    simp only [opR] at hc hq ⊢
    exact bytes_sound env.toStaOK h ho (one (by simp [Op.operands])) hc hq
  case build t parts => simp only [opR, buildR_q] at hq; cases hq
  case alloc t =>
    simp only [opR] at hc ⊢
    exact alloc_sound env.toStaOK h ho hc
  case box t x =>
    simp only [opR] at hc ⊢
    exact box_sound env.toStaOK h ho (one (by simp [Op.operands])) hc
  case store t x y =>
    simp only [opR] at hc ⊢
    exact store_sound env.toStaOK h ho (one (by simp [Op.operands])) (one (by simp [Op.operands])) hc
  case buildSlice t k ps =>
    have e : (Op.buildSlice t k ps).operands.toList = ps.toList.map (·.2) := by simp [Op.operands]
    rw [e] at hok hn
    exact buildSlice_sound env.toStaOK h ho hok hn hc
  case makeSlice t x y =>
    exact makeSlice_sound env.toStaOK h ho (one (by simp [Op.operands])) (one (by simp [Op.operands])) hc
  case makeFunc fn fs cs =>
    exfalso
    cases fn with
    | func f =>
      simp only [opR] at hc hq
      generalize hfs : fs.toList = fl at hc hq
      cases fl with
      | nil => cases hq
      | cons _ _ => exact hc
    | _ => exact hc.elim
  case slice t x lo hi mx =>
    exfalso
    cases mx with
    | none => simp only [opR, cutR_q] at hq; cases hq
    | some m =>
      cases lo with
      | some l => exact hc.elim
      | none =>
        cases hi with
        | none => exact hc.elim
        | some hh => simp only [opR, cut0R_q] at hq; cases hq
  case call c =>
    cases hcal : c.callee with
    | value g =>
      simp only [opR, hcal] at hc hq ⊢
      refine call_loud env h ho hcal ?_ ?_ hc hq
      · simpa [Op.operands, Call.operands, hcal] using hok
      · simpa [Op.operands, Call.operands, hcal] using hn
    | builtin b =>
      cases b <;> simp only [opR, hcal] at hc hq ⊢ <;> try exact hc.elim
      case append =>
        split at hc
        · rename_i x y t t' hx ht
          simp only [hx, ht] at hq ⊢
          split at hc
          · rename_i he
            subst he
            have hx' : c.args = #[x, y] := by rw [← Array.toList_inj, hx]
            have ht' : c.argTypes = #[t, t] := by rw [← Array.toList_inj, ht]
            rw [if_pos rfl]
            refine append_sound env.toStaOK h (vx := a.eval x) (vy := a.eval y) (fun w => ?_) (one (by simp [Op.operands, Call.operands, hcal, hx'])) (one (by simp [Op.operands, Call.operands, hcal, hx'])) hc
            simp only [execOp, ho, resolve, hcal, pure_bind, invoke, builtin, hx', ht']
            simp
          · exact hc.elim
        · exact hc.elim
      case len =>
        exfalso
        split at hc
        · rename_i x t hx ht
          simp only [hx, ht, lenR_q] at hq
          cases hq
        · exact hc.elim
    | invoke r m => simp only [opR, hcal] at hc; exact hc.elim
end
end Go.TM
end
section
namespace Go.TM
open Go
section
variable {P : Program} {E : Env} {M : Mem} {W : World} {s : S} {n : Nat} {a : Act}
theorem storeR_p {tt : Option TI} {x y : V} {s : S} (hq : (storeR tt x y s).p = true) (hc : (storeR tt x y s).c) : False := by
  generalize hr : storeR tt x y s = r at hq hc
  unfold storeR at hr
  repeat' split at hr
  all_goals (subst hr; first | exact hc.elim | simp [R.st] at hq)
theorem yields_of_quiet (h : St n M W s a) {o : Oper} {v : Value} {w : World} {C : World → Prop} (hok : o.op.operands.toList.all (okOp n) = true) (hn : needs true s o.op.operands.toList) (hp : pureOp E s o) (hpk : ∀ c x y, o.op ≠ .pick c x y) (hc : (opR E s o.type o.op).c)
    (hq : o.quietAt P a C w v) : (execOp a.eval o).run P w = .ok (.value v) w := by
  have val : ∀ {x : Sem Value}, (execOp a.eval o).run P w = (do pure (Next.value (← x)) : Sem Next).run P w → (execOp a.eval o).run P w = .ok (.value v) w := by
    intro x hx
    unfold Oper.quietAt at hq
    rw [hx] at hq ⊢
    rw [Sem.run_bind] at hq ⊢
    cases hr : x.run P w with
    | ok u w' =>
      rw [hr] at hq
      obtain ⟨h1, h2⟩ := hq
      subst h1 h2
      rfl
    | halt e w' => rw [hr] at hq; exact hq.elim
  have one : ∀ {u : Value}, (execOp a.eval o).run P w = .ok (.value u) w → (execOp a.eval o).run P w = .ok (.value v) w := by
    intro u hx
    unfold Oper.quietAt at hq
    rw [hx] at hq ⊢
    rw [hq.2]
  cases ho : o.op
  case pick c x y => exact absurd ho (hpk c x y)
  case nilCheck x =>
    have hx : SR2 M W (opnd s x) (a.eval x) := opnd_sound h (by rw [ho] at hok; simpa [Op.operands] using hok) (by rw [ho] at hn; simpa [Op.operands] using hn)
    rw [ho] at hc
    obtain ⟨-, -, -, ad, had⟩ := nil_pure (s := s) hx hc
    refine one (u := a.eval x) ?_
    simp only [execOp, ho, had]
    rfl
  case move x => exact one (u := a.eval x) (by simp only [execOp, ho]; rfl)
  case assign x => exact one (u := a.eval x) (by simp only [execOp, ho]; rfl)
  case call c =>
    unfold pureOp at hp
    rw [ho] at hp
    simp only at hp
    split at hp
    · rename_i hcal
      rw [ho] at hc
      simp only [opR, hcal] at hc
      split at hc
      · rename_i x t hx ht
        have hx' : c.args = #[x] := by rw [← Array.toList_inj, hx]
        have ht' : c.argTypes = #[t] := by rw [← Array.toList_inj, ht]
        refine val (x := Builtin.len_ #[t] o.type #[a.eval x]) ?_
        simp only [execOp, ho, resolve, hcal, pure_bind, invoke, builtin, hx', ht']
        simp
      · exact hc.elim
    · exact hp.elim
  case store t x y =>
    exfalso
    unfold pureOp at hp
    rw [ho] at hp hc
    exact storeR_p hp hc
  all_goals first
    | (rw [ho] at hc; exact hc.elim)
    | exact val (by simp only [execOp, ho]; rfl)
end
end Go.TM
end
section
namespace Go.TM
open Go
section
variable {P : Program} {E : Env} {n : Nat}
def Up (P : Program) (E : Env) (dr : Bool) (all : Array Oper) (os : List Oper) (K : S → Prop) (n : Nat) (M : Mem) (W : World) (s : S) (a : Act) (o : Oper) : Prop :=
  (Region.wanted o (yielded all a.tmps) = false ∧ ∃ s', opsW E dr all os s' K ∧ St n M W s' (a.put o.dst undef)) ∨
  (Region.wanted o (yielded all a.tmps) = true ∧ ((∃ val M' s', (∀ w, Cls W w → o.quietAt P a (Cls W) w val) ∧ St n M' W s' (a.put o.dst val) ∧ Evo M W M' W ∧ (pureOp E s o → M' = M ∧ ∀ w, Cls W w → (execOp a.eval o).run P w = .ok (.value val) w) ∧ opsW E dr all os s' K) ∨
    (dr = false ∧ ∀ Q, o.wp P a W (fun a' W' => ∃ val M' s', a' = a.put o.dst val ∧ St n M' W' s' a' ∧ Evo M W M' W' ∧ opsW E dr all os s' K) Q)))
variable {M : Mem} {W : World} {s : S} {a : Act}
theorem St.undef (h : St n M W s a) {d : Option Nat} (hd : d.all (fun d => decide (d < n)) = true) (v : V) : St n M W (s.put d (.cnd false v)) (a.put d Go.undef) :=
  h.putO hd (by simp [SR])
theorem St.undef' (h : St n M W s a) {d : Option Nat} (hd : d.all (fun d => decide (d < n)) = true) : St n M W (s.put d (.tup [])) (a.put d Go.undef) :=
  h.putO hd ⟨[], rfl, trivial⟩
theorem grd_sound {all : Array Oper} (hall : all.toList.all (okO n) = true) (h : St n M W s a) {o : Oper} {j : Nat} {want : Bool} (hg : o.guard = some (j, want)) {G : Bool}
    (hG : grd all s (some (j, want)) = some G) : Region.wanted o (yielded all a.tmps) = G := by
  have hw : Region.wanted o (yielded all a.tmps) = (yielded all a.tmps j == some want) := by
    simp only [Region.wanted, hg]
  rw [hw]
  cases hd : (all[j]?).bind (·.dst) with
  | none => simp [grd, hd] at hG
  | some d =>
    have hdn : d < n := by
      rw [Option.bind_eq_some_iff] at hd
      obtain ⟨o', h1, h2⟩ := hd
      have h3 : okO n o' = true := List.all_eq_true.1 hall o' (by
        rw [← Array.getElem?_toList] at h1
        exact List.mem_of_getElem? h1)
      simp only [okO, Bool.and_eq_true, h2, Option.all_some, decide_eq_true_eq] at h3
      exact h3.2
    have hs := h.slot d hdn
    have hy : yielded all a.tmps j = match a.tmps.getD d Go.undef with | .bool b => some b | _ => none := by
      have hlt : d < a.tmps.size := by rw [h.size]; exact hdn
      simp only [yielded, hd, Option.bind_some, Array.getElem?_eq_getElem hlt]
      have e : a.tmps.getD d Go.undef = a.tmps[d] := by simp [Array.getD, hlt]
      rw [e]
      cases a.tmps[d] <;> rfl
    simp only [grd, hd, Option.map_some] at hG
    rw [hy]
    cases he : s.e d with
    | bool b =>
      rw [he] at hG hs
      simp only [Option.some.injEq] at hG
      have hs' : a.tmps.getD d Go.undef = .bool b := hs
      rw [hs', ← hG]
      rfl
    | cnd g v =>
      rw [he] at hG hs
      cases v with
      | bool b =>
        simp only [Option.some.injEq] at hG
        simp only [SR] at hs
        cases g with
        | true =>
          have hs' : a.tmps.getD d Go.undef = .bool b := hs
          rw [hs', ← hG]
          cases b <;> cases want <;> rfl
        | false =>
          have hs' : a.tmps.getD d Go.undef = Go.undef := by simpa using hs
          rw [hs', ← hG]
          rfl
      | _ =>
        cases g with
        | true => simp at hG
        | false =>
          have hs' : a.tmps.getD d Go.undef = Go.undef := by simpa [SR] using hs
          simp only [Option.some.injEq] at hG
          rw [hs', ← hG]
          rfl
    | tup xs =>
      rw [he] at hG hs
      cases xs with
      | nil =>
        obtain ⟨vs, hs, ha⟩ := hs
        cases vs with
        | nil =>
          rw [hs]
          simp only [Option.some.injEq] at hG
          rw [← hG]
          rfl
        | cons v vs => exact ha.elim
      | cons x xs => simp at hG
    | _ => rw [he] at hG; simp at hG
theorem exec_pick {o : Oper} {c x y : Operand} {g : Bool} (ho : o.op = .pick c x y) (hc : a.eval c = .bool g) (w : World) :
    (execOp a.eval o).run P w = .ok (.value (if g = true then a.eval x else a.eval y)) w := by
  simp only [execOp, ho, hc, asBool]
  cases g <;> rfl
theorem up (env : EnvOK P E) {dr : Bool} {all : Array Oper} (hall : all.toList.all (okO n) = true) (h : St n M W s a) {o : Oper} {os : List Oper} {K : S → Prop} (hok : okO n o = true)
    (hw : opsW E dr all (o :: os) s K) : Up P E dr all os K n M W s a o := by
  simp only [okO, Bool.and_eq_true] at hok
  obtain ⟨hop, hdst⟩ := hok
  have hone : ∀ {G : Bool} {us : List Operand}, (G = true → needs G s us) → ∀ x ∈ us, x ∈ o.op.operands.toList → G = true → SR2 M W (opnd s x) (a.eval x) := by
    intro G us hn x hx hm hG
    subst hG
    exact opnd_sound h (List.all_eq_true.1 hop _ hm) (needs_mem (hn rfl) hx)
  by_cases hpk : ∃ c x y, o.op = .pick c x y
  · obtain ⟨c, x, y, ho⟩ := hpk
    have hm : c ∈ o.op.operands.toList ∧ x ∈ o.op.operands.toList ∧ y ∈ o.op.operands.toList := by rw [ho]; simp [Op.operands]
    cases hg : o.guard with
    | none =>
      have hwant : Region.wanted o (yielded all a.tmps) = true := by simp [Region.wanted, hg]
      simp only [opsW, ho, hg] at hw
      have hcv : ∀ g, bareB s c = .bool g → a.eval c = .bool g := by
        intro g hb
        have hokc := List.all_eq_true.1 hop _ hm.1
        cases c with
        | tmp t =>
          simp only [bareB] at hb
          have := h.slot t (by simpa [okOp] using hokc)
          rw [hb] at this
          exact this
        | const v =>
          have := opnd_sound h hokc (by trivial)
          rw [show opnd s (.const v) = _ from hb] at this
          exact this
        | func f => simp [bareB, opnd] at hb
        | global f => simp [bareB, opnd] at hb
      right
      refine ⟨hwant, .inl ?_⟩
      have fin : ∀ (g : Bool) (v : V), a.eval c = .bool g → SR2 M W v (if g = true then a.eval x else a.eval y) → opsW E dr all os (s.put o.dst v) K →
          ∃ val M' s', (∀ w, Cls W w → o.quietAt P a (Cls W) w val) ∧ St n M' W s' (a.put o.dst val) ∧ Evo M W M' W ∧ (pureOp E s o → M' = M ∧ ∀ w, Cls W w → (execOp a.eval o).run P w = .ok (.value val) w) ∧ opsW E dr all os s' K := fun g v h1 h2 h3 =>
        ⟨_, M, _, fun w _ => quietAt_value (exec_pick ho h1 w), h.putO hdst (SR_of_2 h2), Evo.refl _ _, fun _ => ⟨rfl, fun w _ => exec_pick ho h1 w⟩, h3⟩
      unfold pickR at hw
      split at hw
      · rename_i g x1 y1 e1 e2 e3
        obtain ⟨⟨n1, n2⟩, hK⟩ := hw
        refine fin g _ (hcv g e1) ?_ hK
        cases g with
        | true => rw [if_pos rfl]; have := hone (fun _ => n1) x (by simp) hm.2.1 rfl; rw [e2] at this; exact this
        | false => rw [if_neg (by simp)]; have := hone (fun _ => n2) y (by simp) hm.2.2 rfl; rw [e3] at this; exact this
      · rename_i g e1 e2
        obtain ⟨⟨n1, n2⟩, hK⟩ := hw
        cases g with
        | true => exact fin true _ (hcv _ e1) (by rw [if_pos rfl]; exact hone (fun _ => n1) x (by simp) hm.2.1 rfl) (by simpa using hK)
        | false => exact fin false _ (hcv _ e1) (by rw [if_neg (by simp)]; exact hone (fun _ => n2) y (by simp) hm.2.2 rfl) (by simpa using hK)
      · exact hw.elim
    | some jw =>
      obtain ⟨j, want⟩ := jw
      simp only [opsW, ho, hg] at hw
      unfold pickG at hw
      split at hw
      · rename_i G g x1 y1 e0 e1 e2 e3
        obtain ⟨⟨n0, n1, n2⟩, hK⟩ := hw
        have hwant := grd_sound hall h hg e0
        cases G with
        | false => exact .inl ⟨hwant, _, hK, h.undef hdst _⟩
        | true =>
          right
          refine ⟨hwant, .inl ?_⟩
          have hcv : a.eval c = .bool g := by
            have := hone (fun _ => n0) c (by simp) hm.1 rfl
            rw [e1] at this
            exact this
          refine ⟨_, M, _, fun w _ => quietAt_value (exec_pick ho hcv w), h.putO (x := .cnd true (.bool (bif g then x1 else y1))) hdst ?_, Evo.refl _ _, fun _ => ⟨rfl, fun w _ => exec_pick ho hcv w⟩, hK⟩
          simp only [SR, if_true]
          cases g with
          | true => rw [if_pos rfl]; have := hone (fun _ => n1) x (by simp) hm.2.1 rfl; rw [e2] at this; exact this
          | false => rw [if_neg (by simp)]; have := hone (fun _ => n2) y (by simp) hm.2.2 rfl; rw [e3] at this; exact this
      · rename_i G e0 e1
        have hwant := grd_sound hall h hg e0
        cases G with
        | false =>
          rw [if_neg (by simp)] at hw
          exact .inl ⟨hwant, _, hw, h.undef hdst _⟩
        | true =>
          rw [if_pos rfl] at hw
          split at hw
          · rename_i g e4
            obtain ⟨⟨n0, n1, n2⟩, hK⟩ := hw
            right
            refine ⟨hwant, .inl ?_⟩
            have hcv : a.eval c = .bool g := by
              have := hone (fun _ => n0) c (by simp) hm.1 rfl
              rw [e4] at this
              exact this
            cases g with
            | true =>
              rw [if_pos rfl] at hK
              refine ⟨_, M, _, fun w _ => quietAt_value (exec_pick ho hcv w), h.putO (x := .cnd true (opnd s x)) hdst ?_, Evo.refl _ _, fun _ => ⟨rfl, fun w _ => exec_pick ho hcv w⟩, hK⟩
              simp only [SR, if_true]
              exact hone (fun _ => n1) x (by simp) hm.2.1 rfl
            | false =>
              rw [if_neg (by simp)] at hK
              refine ⟨_, M, _, fun w _ => quietAt_value (exec_pick ho hcv w), h.putO (x := .cnd true (opnd s y)) hdst ?_, Evo.refl _ _, fun _ => ⟨rfl, fun w _ => exec_pick ho hcv w⟩, hK⟩
              simp only [SR, if_true, Bool.false_eq_true, if_false]
              exact hone (fun _ => n2) y (by simp) hm.2.2 rfl
          · exact hw.elim
      · exact hw.elim
  · have hplain : opsW E dr all (o :: os) s K = (match o.guard with
      | none => stepR dr o.dst (opR E s o.type o.op) o.op.operands.toList s fun s' => opsW E dr all os s' K
      | some jw => stepG dr (grd all s (some jw)) o.dst (opR E s o.type o.op) o.op.operands.toList s fun s' => opsW E dr all os s' K) := by
      cases ho : o.op
      case pick c x y => exact absurd ⟨_, _, _, ho⟩ hpk
      all_goals cases hg : o.guard <;> simp only [opsW, ho, hg]
    rw [hplain] at hw
    have hpure : pureOp E s o → (opR E s o.type o.op).p = true := by
      intro hp
      unfold pureOp at hp
      split at hp
      · rename_i c x y ho; exact absurd ⟨_, _, _, ho⟩ hpk
      · rename_i c ho
        split at hp
        · rw [ho]; exact hp
        · exact hp.elim
      · exact hp
    cases hg : o.guard with
    | none =>
      have hwant : Region.wanted o (yielded all a.tmps) = true := by simp [Region.wanted, hg]
      simp only [hg] at hw
      obtain ⟨hn, ⟨hc, hdr⟩, hK⟩ := hw
      right
      refine ⟨hwant, ?_⟩
      cases hq : (opR E s o.type o.op).q with
      | true =>
        obtain ⟨M', val, h1, h2, h3, h4, h5⟩ := opQ env h o hop hn hc hq
        exact .inl ⟨val, M', _, h1, h2.putO hdst (SR_of_2 h3), h4, fun hp => ⟨(h5 (hpure hp)).2, fun w hw => yields_of_quiet h hop hn hp (fun c x y e => hpk ⟨c, x, y, e⟩) hc (h1 w hw)⟩, hK⟩
      | false =>
        refine .inr ⟨?_, fun Q => opN env h o hop hn hc hq _ Q fun M' W' val h1 h2 h3 => ⟨val, M', _, rfl, h1.putO hdst (SR_of_2 h2), h3, hK⟩⟩
        cases dr with
        | false => rfl
        | true => rw [hdr rfl] at hq; cases hq
    | some jw =>
      obtain ⟨j, want⟩ := jw
      simp only [hg] at hw
      unfold stepG at hw
      split at hw
      · rename_i G e0
        obtain ⟨⟨hn, hc⟩, hK⟩ := hw
        have hwant := grd_sound hall h hg e0
        cases G with
        | false =>
          left
          refine ⟨hwant, ?_⟩
          split at hK
          · exact ⟨_, hK, h.undef hdst _⟩
          · rw [if_neg (by simp)] at hK
            exact ⟨_, hK, h.undef' hdst⟩
        | true =>
          right
          refine ⟨hwant, ?_⟩
          obtain ⟨hc, hdr⟩ := hc rfl
          cases hq : (opR E s o.type o.op).q with
          | true =>
            obtain ⟨M', val, h1, h2, h3, h4, h5⟩ := opQ env h o hop hn hc hq
            left
            by_cases hp : (opR E s o.type o.op).p = true
            · obtain ⟨h6, rfl⟩ := h5 hp
              rw [if_pos ⟨hp, hq⟩] at hK
              exact ⟨val, M', _, h1, h.putO hdst (x := .cnd true _) (show SR2 M' W _ _ from h3), h4, fun hp => ⟨rfl, fun w hw => yields_of_quiet h hop hn hp (fun c x y e => hpk ⟨c, x, y, e⟩) hc (h1 w hw)⟩, hK⟩
            · rw [if_neg (fun e => hp e.1), if_pos rfl] at hK
              exact ⟨val, M', _, h1, h2.putO hdst (SR_of_2 h3), h4, fun hp' => absurd (hpure hp') hp, hK⟩
          | false =>
            rw [if_neg (fun e => by rw [hq] at e; cases e.2), if_pos rfl] at hK
            refine .inr ⟨?_, fun Q => opN env h o hop hn hc hq _ Q fun M' W' val h1 h2 h3 => ⟨val, M', _, rfl, h1.putO hdst (SR_of_2 h2), h3, hK⟩⟩
            cases dr with
            | false => rfl
            | true => rw [hdr rfl] at hq; cases hq
      · exact hw.elim
theorem Oper.wp_imp {o : Oper} {K K' : Act → World → Prop} {Q : Exit → Act → World → Prop} (h : ∀ a w, K a w → K' a w) (hh : o.wp P a W K Q) : o.wp P a W K' Q := Go.Oper.wp_mono h hh
theorem wp_of_quietAt {o : Oper} {val : Value} {K : Act → World → Prop} {Q : Exit → Act → World → Prop} (hq : ∀ w, Cls W w → o.quietAt P a (Cls W) w val) (hK : ∀ w, Cls W w → K (a.put o.dst val) w) : o.wp P a W K Q :=
  Oper.wp_of_quiet (C := Cls W) (K := fun a' => a' = a.put o.dst val) (RowKit.Below.refl _ _) (fun a' w hw e => e ▸ hK w hw) ⟨val, hq, rfl⟩
theorem region_seq (env : EnvOK P E) {all : Array Oper} (hall : all.toList.all (okO n) = true) {K : S → Prop} {Q : Exit → Act → World → Prop} {M0 : Mem} {W0 : World}
    (hK : ∀ s' a' W' M', K s' → St n M' W' s' a' → Evo M0 W0 M' W' → Q .normal a' W') :
    ∀ (os : List Oper) (k : Nat) (s : S) (a : Act) (W : World) (M : Mem), (∀ j, os[j]? = all[k + j]?) → St n M W s a → Evo M0 W0 M W → opsW E false all os s K → wpOps P all Q (List.range' k os.length) a W
  | [], _, s, a, W, M, _, h, he, hw => hK s a W M hw h he
  | o :: os, k, s, a, W, M, hl, h, he, hw => by
    have h0 : all[k]? = some o := by simpa using (hl 0).symm
    have hok : okO n o = true := List.all_eq_true.1 hall o (by
      rw [← Array.getElem?_toList] at h0
      exact List.mem_of_getElem? h0)
    have hl' : ∀ j, os[j]? = all[(k + 1) + j]? := fun j => by
      have := hl (j + 1)
      simpa [Nat.add_assoc, Nat.add_comm 1 j] using this
    have ihh := region_seq env hall hK os (k + 1)
    simp only [List.length_cons, List.range'_succ, wpOps, h0]
    rcases up env hall h hok hw with ⟨h1, s', h2, h3⟩ | ⟨h1, h2⟩
    · rw [h1]
      exact ihh s' _ W M hl' h3 he h2
    · rw [h1, if_pos rfl]
      left
      rcases h2 with ⟨val, M', s', h2, h3, h4, -, h5⟩ | ⟨-, h2⟩
      · exact wp_of_quietAt h2 fun w hw => ihh s' _ w M' hl' (h3.cls hw) (he.trans (h4.trans (hw.evo M'))) h5
      · exact Oper.wp_mono (fun a' W' ⟨val, M', s', _, h3, h4, h5⟩ => ihh s' a' W' M' hl' h3 (he.trans h4) h5) (h2 Q)
theorem region_quiet (env : EnvOK P E) {all : Array Oper} (hall : all.toList.all (okO n) = true) {K : S → Prop} {Q : Act → Prop} {W : World} {M0 : Mem} {W0 : World}
    (hK : ∀ s' a' M', K s' → St n M' W s' a' → Evo M0 W0 M' W → Q a') :
    ∀ (os : List Oper) (s : S) (a : Act) (M : Mem), (∀ o ∈ os, okO n o = true) → St n M W s a → Evo M0 W0 M W → opsW E true all os s K → wpQuiet P all (Cls W) Q os a
  | [], s, a, M, _, h, he, hw => hK s a M hw h he
  | o :: os, s, a, M, hl, h, he, hw => by
    have ihh := region_quiet env hall hK os
    simp only [wpQuiet]
    rcases up env hall h (hl o (by simp)) hw with ⟨h1, s', h2, h3⟩ | ⟨h1, h2⟩
    · rw [h1]
      exact ihh s' _ M (fun o ho => hl o (by simp [ho])) h3 he h2
    · rw [h1, if_pos rfl]
      rcases h2 with ⟨val, M', s', h2, h3, h4, -, h5⟩ | ⟨h2, -⟩
      · exact ⟨val, h2, ihh s' _ M' (fun o ho => hl o (by simp [ho])) h3 (he.trans h4) h5⟩
      · cases h2
end
end Go.TM
end
section
namespace Go.TM
open Go
section
variable {P : Program} {E : Env} {M : Mem} {W : World} {s : S} {n : Nat} {a : Act}
def Mem.see (M : Mem) : Mem := { M with F := fun b => M.F b ∨ ∃ t, M.ω b = some (.tok t), ω := fun b => match M.ω b with | some (.box k) => some (.box k) | _ => none, nt := 0 }
def Mem.new (M : Mem) : Mem := { M.see with ω := fun _ => none }
theorem see_ω {b : Nat} {l : Root} (h : M.see.ω b = some l) : M.ω b = some l ∧ ∃ k, l = .box k := by
  simp only [Mem.see] at h
  split at h
  · rename_i k hk
    cases h
    exact ⟨hk, k, rfl⟩
  · cases h
theorem see_leafy (h : MemOK M W s) {w : World} (hw : Cls W w) : Leafy (seeL s) M W M.see w := by
  have hF : ∀ b, (M.F b ∨ ∃ t, M.ω b = some (.tok t)) → w.heap[b]? = W.heap[b]? := by
    rintro b (hb | ⟨t, hb⟩)
    · exact hw.block b (h.frz b hb).2
    · exact hw.block b (h.lt b _ hb)
  have up : ∀ {x v}, FR W M.F x v → FR w M.see.F x v := fun hf => hf.mono (fun b hb => hF b (.inl hb)) fun b hb => .inl hb
  intro x v hx
  cases x with
  | own t =>
    simp only [seeL]
    split
    · rename_i r hr
      obtain ⟨-, rfl⟩ := hx
      rcases (h.row t r hr).2 with ⟨hw', B, h1, h2, -⟩ | ⟨-, h1, -⟩
      · exact (h1.fr (G := M.see.F) (fun b hb => .inl hb) fun b hb => .inr ⟨t, h2 b hb⟩).mono hF fun b hb => hb
      · exact up (FR.norm h1)
    · trivial
  | sub t i o =>
    simp only [seeL]
    split
    · rename_i p hp
      obtain ⟨-, rfl⟩ := hx
      obtain ⟨r, h1, h2, h3⟩ := nest_spec hp
      obtain ⟨B, h4, h5⟩ := (h.row t r h1).2.nested h2 h3
      exact (h4.fr (G := M.see.F) (fun b hb => .inl hb) fun b hb => .inr ⟨t, h5 b hb⟩).mono hF fun b hb => hb
    · trivial
  | oadr => trivial
  | sadr => trivial
  | lst xs => exact up hx
  | ladr xs i off =>
    obtain ⟨b, o, c, sz, h1, h2, h3, h4, rfl⟩ := hx
    refine ⟨b, o, c, sz, up h1, h2, fun j k l hl => ?_, h4, rfl⟩
    obtain ⟨u, h5, h6⟩ := h3 j k l hl
    refine ⟨u, ?_, up h6⟩
    have hb : M.F b := by
      cases h1 with
      | nil => simp at h4
      | lst _ _ _ _ _ _ hF => exact hF
    rw [World.cell?_of_block (hF b (.inl hb))]
    exact h5
  | fn f caps =>
    obtain ⟨cs, rfl, hc⟩ := hx
    refine ⟨cs, rfl, hc.imp ?_⟩
    rintro a b (⟨k, off, rfl, hk, rfl⟩ | ⟨xs, i, off, rfl, hl⟩)
    · exact .inl ⟨k, off, rfl, hk, rfl⟩
    · exact .inr ⟨xs, i, off, rfl, hl.mono (fun b hb => hF b (.inl hb)) fun b hb => .inl hb⟩
  | _ => exact hx
theorem see_mem (h : MemOK M W s) {w : World} (hw : Cls W w) : MemOK M.see w s.see where
  nt := rfl
  nb := h.nb
  box b c hb := by
    simp only [S.see, S.mapE, Option.map_eq_some_iff] at hb
    obtain ⟨c0, h1, rfl⟩ := hb
    obtain ⟨h2, cs, ty, h3, h4, h5⟩ := h.box b c0 h1
    exact ⟨h2, cs, ty, (hw.block _ (h.lt _ _ h4)).trans h3, by simp only [Mem.see, h4], (see_leafy h hw).cont h5⟩
  row t r hr := by cases hr
  frz b hb := by
    refine ⟨?_, ?_⟩
    · cases e : M.see.ω b with
      | none => rfl
      | some l =>
        obtain ⟨h1, k, rfl⟩ := see_ω e
        rcases hb with hb | ⟨t, hb⟩
        · rw [(h.frz b hb).1] at h1; cases h1
        · rw [hb] at h1; cases h1
    · rcases hb with hb | ⟨t, hb⟩
      · exact Nat.lt_of_lt_of_le (h.frz b hb).2 hw.size
      · exact Nat.lt_of_lt_of_le (h.lt b _ hb) hw.size
  lt b l hl := Nat.lt_of_lt_of_le (h.lt b l (see_ω hl).1) hw.size
  tok b t hl := by
    obtain ⟨-, k, e⟩ := see_ω hl
    cases e
  bx b k hl := h.bx b k (see_ω hl).1
theorem see_St (h : St n M W s a) {w : World} (hw : Cls W w) : St n M.see w s.see a where
  size := h.size
  defers := h.defers
  slot x hx := (see_leafy h.mem hw).all (h.slot x hx)
  mem := see_mem h.mem hw
theorem new_St (h : St n M W s a) {w : World} (hw : Cls W w) : St n M.new w { s.see with B := fun _ => none } a where
  size := h.size
  defers := h.defers
  slot x hx := by
    have h1 := (see_leafy h.mem hw).all (h.slot x hx)
    have hk : Keep M.see w M.new w := ⟨fun _ h => h, fun _ _ => rfl, fun _ _ => rfl, fun _ _ _ _ => rfl, fun _ _ => rfl, Nat.le_refl _, Nat.le_refl _⟩
    exact hk.all h1
  mem := {
    nt := rfl
    nb := h.mem.nb
    box := fun b c hb => by cases hb
    row := fun t r hr => by cases hr
    frz := fun b hb => ⟨rfl, ((see_mem h.mem hw).frz b hb).2⟩
    lt := fun b l hl => by cases hl
    tok := fun b t hl => by cases hl
    bx := fun b k hl => by cases hl }
theorem flatL_move {M' : Mem} {W' : World} {x : V} {v : Value} (h : flatL x = true) (hs : SRL M W x v) : SRL M' W' x v := by
  cases x <;> first | exact hs | simp [flatL] at h
theorem flatLs_move {M' : Mem} {W' : World} : ∀ {xs : List V} {vs : List Value}, xs.all flatL = true → All2 (SRL M W) xs vs → All2 (SRL M' W') xs vs
  | [], [], _, _ => trivial
  | x :: xs, v :: vs, h, hs => by
    simp only [List.all_cons, Bool.and_eq_true] at h
    exact ⟨flatL_move h.1 hs.1, flatLs_move h.2 hs.2⟩
theorem flat1_move {M' : Mem} {W' : World} {x : V} {v : Value} (h : flat1 x = true) (hs : SR1 M W x v) : SR1 M' W' x v := by
  cases x with
  | agg xs =>
    obtain ⟨vs, rfl, ha⟩ := hs
    exact ⟨vs, rfl, flatLs_move h ha⟩
  | _ => first | exact hs | simp [flat1, flatL] at h
theorem flat1s_move {M' : Mem} {W' : World} : ∀ {xs : List V} {vs : List Value}, xs.all flat1 = true → All2 (SR1 M W) xs vs → All2 (SR1 M' W') xs vs
  | [], [], _, _ => trivial
  | x :: xs, v :: vs, h, hs => by
    simp only [List.all_cons, Bool.and_eq_true] at h
    exact ⟨flat1_move h.1 hs.1, flat1s_move h.2 hs.2⟩
theorem flatV_move {M' : Mem} {W' : World} {x : V} {v : Value} (h : flatV x = true) (hs : SR2 M W x v) : SR2 M' W' x v := by
  cases x with
  | tup xs =>
    obtain ⟨vs, rfl, ha⟩ := hs
    exact ⟨vs, rfl, flat1s_move h ha⟩
  | agg xs => exact flat1_move (x := .agg xs) h hs
  | _ => first | exact hs | simp [flatV, flat1, flatL] at h
theorem flatC_SR {M' : Mem} {W' : World} {x : V} {v : Value} (h : SR M W x v) : SR M' W' (flatC x) v := by
  have key : ∀ {y : V}, SR2 M W y v → SR M' W' (if flatV y = true then y else .bad) v := by
    intro y hy
    split
    · rename_i hf
      exact SR_of_2 (flatV_move hf hy)
    · trivial
  unfold flatC
  split
  · rename_i g y
    simp only [SR] at h
    by_cases hf : flatV y = true
    · rw [if_pos hf]
      simp only [SR]
      cases g with
      | true => rw [if_pos rfl] at h ⊢; exact flatV_move hf h
      | false => exact h
    · rw [if_neg hf]
      simp only [SR]
      cases g with
      | true => rw [if_pos rfl]; trivial
      | false => exact h
  · obtain ⟨vs, rfl, ha⟩ := h
    cases vs with
    | nil => exact ⟨[], rfl, trivial⟩
    | cons => exact ha.elim
  · rename_i h1 h2
    refine key ?_
    cases x <;> first | exact h | exact absurd rfl (h1 _ _)
end
end Go.TM
end
section
namespace Go.TM
open Go
section
variable {P : Program} {E : Env} {M : Mem} {W : World} {s : S} {n : Nat} {a : Act}
theorem put_at (h : a.tmps.size = n) {d : Nat} (hd : d < n) (v : Value) : (a.put (some d) v).tmps.getD d Go.undef = v := by
  simp [Act.put, Array.getD, h, hd]
theorem put_off {d x : Nat} (hd : x ≠ d) (v : Value) : (a.put (some d) v).tmps.getD x Go.undef = a.tmps.getD x Go.undef := by
  simp only [Act.put, Array.getD_eq_getD_getElem?, Array.getElem?_setIfInBounds, if_neg (Ne.symm hd)]
structure Half (n : Nat) (all : Array Oper) (M : Mem) (W : World) (a0 : Act) (u s : S) (a : Act) (w : World) (Ms : Mem) : Prop where
  U : St n M.see W u a
  T : St n Ms w s a
  evo : Evo M.new W Ms w
  slots : ∀ x, all.any (fun o => o.dst == some x) = false → a.tmps.getD x Go.undef = a0.tmps.getD x Go.undef
section
variable {all : Array Oper} {a0 : Act} {u : S} {w : World} {Ms : Mem}
theorem Half.cls (h : Half n all M W a0 u s a w Ms) : Cls W w := ⟨h.evo.os, h.evo.tape, h.evo.output, h.evo.size, fun b hb => h.evo.old b hb rfl⟩
theorem Half.keep (h : Half n all M W a0 u s a w Ms) : Keep M.see W Ms w where
  F b hb := h.evo.frz0 b hb
  FW b hb := h.evo.old b (h.U.mem.frz b hb).2 rfl
  ρ t ht := absurd ht (Nat.not_lt_zero _)
  σ t i o ht := absurd ht (Nat.not_lt_zero _)
  β b hb := h.evo.β b hb
  nt := Nat.zero_le _
  nb := h.evo.nb
theorem any_dst {i : Nat} {o : Oper} (hi : all[i]? = some o) {d x : Nat} (hd : o.dst = some d) (hx : all.any (fun o => o.dst == some x) = false) : x ≠ d := by
  rintro rfl
  rw [← Bool.not_eq_true] at hx
  apply hx
  rw [← Array.any_toList, List.any_eq_true]
  rw [← Array.getElem?_toList] at hi
  exact ⟨o, List.mem_of_getElem? hi, by simp [hd]⟩
theorem okO_at (hall : all.toList.all (okO n) = true) {i : Nat} {o : Oper} (hi : all[i]? = some o) : okO n o = true := List.all_eq_true.1 hall o (by
  rw [← Array.getElem?_toList] at hi
  exact List.mem_of_getElem? hi)
theorem okO_dst {o : Oper} (hok : okO n o = true) : o.dst.all (fun d => decide (d < n)) = true := by
  simp only [okO, Bool.and_eq_true] at hok
  exact hok.2
theorem Half.first (h : Half n all M W a0 u s a w Ms) {i : Nat} {o : Oper} (hi : all[i]? = some o) (hok : okO n o = true) {val : Value} {u' : S} (hu : St n M.see W u' (a.put o.dst val)) {K : S → S → Prop}
    (hK : match o.dst with | some d => K u' (s.put (some d) (u'.e d)) | none => K u' s) : ∃ s', K u' s' ∧ Half n all M W a0 u' s' (a.put o.dst val) w Ms := by
  have hd := okO_dst hok
  cases hdst : o.dst with
  | none =>
    rw [hdst] at hK hu
    exact ⟨s, hK, hu, h.T, h.evo, h.slots⟩
  | some d =>
    rw [hdst] at hK hu hd
    simp only [Option.all_some, decide_eq_true_eq] at hd
    refine ⟨_, hK, hu, h.T.putO (d := some d) (by simpa using hd) ?_, h.evo, fun x hx => ?_⟩
    · have := h.keep.all (hu.slot d hd)
      rwa [put_at h.T.size hd] at this
    · rw [put_off (any_dst hi hdst hx)]
      exact h.slots x hx
theorem Half.next (h : Half n all M W a0 u s a w Ms) {i : Nat} {o : Oper} (hi : all[i]? = some o) (hok : okO n o = true) {val : Value} {s' : S} {w' : World} {Ms' : Mem} (hs : St n Ms' w' s' (a.put o.dst val)) (he : Evo Ms w Ms' w') {K : S → S → Prop}
    (hK : match o.dst with | some d => K (u.put (some d) (flatC (s'.e d))) s' | none => K u s') : ∃ u', K u' s' ∧ Half n all M W a0 u' s' (a.put o.dst val) w' Ms' := by
  have hd := okO_dst hok
  cases hdst : o.dst with
  | none =>
    rw [hdst] at hK hs
    exact ⟨u, hK, h.U, hs, h.evo.trans he, h.slots⟩
  | some d =>
    rw [hdst] at hK hs hd
    simp only [Option.all_some, decide_eq_true_eq] at hd
    refine ⟨_, hK, h.U.putO (d := some d) (by simpa using hd) ?_, hs, h.evo.trans he, fun x hx => ?_⟩
    · have := flatC_SR (M' := M.see) (W' := W) (hs.slot d hd)
      rwa [put_at h.T.size hd] at this
    · rw [put_off (any_dst hi hdst hx)]
      exact h.slots x hx
end
theorem plan_run (env : EnvOK P E) {all : Array Oper} (hall : all.toList.all (okO n) = true) (hns : Region.noSelect all = true) {K : S → Prop} {Q : Exit → Act → World → Prop} (hQ : ∀ c a w, ¬ Q (.panic c) a w) {a0 : Act}
    (hK : ∀ u s a w Ms, K u → Half n all M W a0 u s a w Ms → Q .normal a w) :
    ∀ (pl : List (Nat × Bool)) (listed : Array Bool) (fuel : Nat) (u s : S) (a : Act) (w : World) (Ms : Mem), pl.length ≤ fuel → okPlan all listed pl = true → Half n all M W a0 u s a w Ms → planW E all pl u s K →
      wpAnyH P .any all Q (Cls W) fuel listed a w
  | [], listed, fuel, u, s, a, w, Ms, _, hok, h, hw => wpAnyH_done (by simpa [okPlan] using hok) (hK u s a w Ms hw h) fuel
  | (i, b) :: pl, listed, 0, u, s, a, w, Ms, hf, _, _, _ => by simp at hf
  | (i, false) :: pl, listed, fuel + 1, u, s, a, w, Ms, hf, hok, h, hw => by
    simp only [okPlan, Bool.and_eq_true, Bool.false_eq_true, if_false] at hok
    obtain ⟨⟨h1, h2⟩, h3⟩ := hok
    simp only [planW] at hw
    split at hw
    · rename_i o ho
      obtain ⟨hp, hw⟩ := hw
      have hoo := okO_at hall ho
      have ih := plan_run env hall hns hQ hK pl (listed.setIfInBounds i true) fuel
      have hf' : pl.length ≤ fuel := by simpa using hf
      rcases up env hall h.U hoo hw with ⟨h4, s', h5, h6⟩ | ⟨h4, h5⟩
      · obtain ⟨s1, h7, h8⟩ := h.first (K := fun u s => planW E all pl u s K) ho hoo h6 h5
        exact wpAnyH_take ho hns h1 h2 (fun c a w hc => (hQ c _ _ hc).elim) (.inr ⟨h4, rfl⟩) h.cls (ih _ _ _ _ _ hf' h3 h8 h7)
      · rcases h5 with ⟨val, M', s', h5, h6, h7, h8, h9⟩ | ⟨h5, -⟩
        · obtain ⟨rfl, h10⟩ := h8 hp
          obtain ⟨s1, h11, h12⟩ := h.first (K := fun u s => planW E all pl u s K) ho hoo h6 h9
          exact wpAnyH_take ho hns h1 h2 (fun c a w hc => (hQ c _ _ hc).elim) (.inl ⟨h4, h10⟩) h.cls (ih _ _ _ _ _ hf' h3 h12 h11)
        · cases h5
    · exact hw.elim
  | (i, true) :: pl, listed, fuel + 1, u, s, a, w, Ms, hf, hok, h, hw => by
    simp only [okPlan, Bool.and_eq_true, if_true, beq_iff_eq] at hok
    obtain ⟨h1, h3⟩ := hok
    simp only [planW] at hw
    split at hw
    · rename_i o ho
      have hoo := okO_at hall ho
      have ih := plan_run env hall hns hQ hK pl (listed.setIfInBounds i true) fuel
      have hf' : pl.length ≤ fuel := by simpa using hf
      refine wpAnyH_all h1 (by simp) fun j hj => ?_
      obtain rfl : j = i := by simpa using hj
      unfold wpOp
      simp only [ho]
      rcases up env hall h.T hoo hw with ⟨h4, s', h5, h6⟩ | ⟨h4, h5⟩
      · rw [h4, if_neg (by simp)]
        obtain ⟨u1, h7, h8⟩ := h.next (K := fun u s => planW E all pl u s K) ho hoo h6 (Evo.refl _ _) h5
        exact ⟨h.cls, ih _ _ _ _ _ hf' h3 h8 h7⟩
      · rw [h4, if_pos rfl]
        left
        rcases h5 with ⟨val, M', s', h5, h6, h7, -, h9⟩ | ⟨-, h5⟩
        · refine wp_of_quietAt h5 fun w' hw' => ?_
          obtain ⟨u1, h10, h11⟩ := h.next (K := fun u s => planW E all pl u s K) ho hoo (h6.cls hw') (h7.trans (hw'.evo M')) h9
          exact ⟨h11.cls, ih _ _ _ _ _ hf' h3 h11 h10⟩
        · refine Oper.wp_imp ?_ (h5 Q)
          rintro a' w' ⟨val, M', s', rfl, h6, h7, h9⟩
          obtain ⟨u1, h10, h11⟩ := h.next (K := fun u s => planW E all pl u s K) ho hoo h6 h7 h9
          exact ⟨h11.cls, ih _ _ _ _ _ hf' h3 h11 h10⟩
    · exact hw.elim
theorem after_St {all : Array Oper} {a0 : Act} {u : S} {w : World} {Ms : Mem} {s1 : S} (h0 : St n M W s a0) {W' : World} (hW : Cls W W') (h : Half n all M W' a0 u s1 a w Ms) : St n M w (s.after u all) a where
  size := h.U.size
  defers := h.U.defers
  slot x hx := by
    simp only [S.after]
    split
    · exact flatC_SR (h.U.slot x hx)
    · rename_i hn
      rw [h.slots x (by simpa using hn)]
      exact (h0.mem.keep (hW.trans (by have := h.cls; exact ⟨this.os, this.tape, this.output, this.size, fun k hk => this.block k (Nat.lt_of_lt_of_le hk hW.size)⟩))).all (h0.slot x hx)
  mem := (h0.mem.cls (hW.trans (by have := h.cls; exact ⟨this.os, this.tape, this.output, this.size, fun k hk => this.block k (Nat.lt_of_lt_of_le hk hW.size)⟩))).slots _
end
end Go.TM
end
section
namespace Go.TM
open Go
def Mem.bare (M : Mem) : Mem := { M with ω := fun _ => none }
def S.bare (s : S) : S := { s with R := fun _ => none, B := fun _ => none }
theorem bare_ok {M : Mem} {W : World} {s : S} (h : MemOK M W s) : MemOK M.bare W s.bare where
  nt := h.nt
  nb := h.nb
  box b c hb := by cases hb
  row t r hr := by cases hr
  frz b hf := ⟨rfl, (h.frz b hf).2⟩
  lt b l hl := by cases hl
  tok b t hl := by cases hl
  bx b k hl := by cases hl
theorem bare_keep (M : Mem) (W : World) : Keep M W M.bare W := ⟨fun _ h => h, fun _ _ => rfl, fun _ _ => rfl, fun _ _ _ _ => rfl, fun _ _ => rfl, Nat.le_refl _, Nat.le_refl _⟩
open Classical in
noncomputable def Mem.join (M : Mem) (W : World) (M1 : Mem) : Mem :=
  { M1 with ω := fun b => if b < W.heap.size then M.ω b else M1.ω b, σ := fun t i o => if t < M.nt then M.σ t i o else M1.σ t i o }
theorem join_ok {M : Mem} {W : World} {s s1 s2 : S} {M1 : Mem} {W1 : World} (h : MemOK M W s) (h1 : MemOK M1 W1 s1) (he : Evo M.bare W M1 W1) (hnt : s2.nt = s1.nt) (hnb : s2.nb = s1.nb)
    (hR : ∀ t r, s2.R t = some r → (t < s.nt ∧ s.R t = some r) ∨ (s.nt ≤ t ∧ s1.R t = some r)) (hB : ∀ b c, s2.B b = some c → (b < s.nb ∧ s.B b = some c) ∨ (s1.B b = some c ∧ (leaves c).all nsL = true)) :
    MemOK (M.join W M1) W1 s2 ∧ Keep M W (M.join W M1) W1 ∧ Evo M W (M.join W M1) W1 ∧ Cls W W1 := by
  have hcl : Cls W W1 := ⟨he.os, he.tape, he.output, he.size, fun b hb => he.old b hb rfl⟩
  have hnew : ∀ b l, M1.ω b = some l → W.heap.size ≤ b := fun b l hl => by
    rcases he.lab b l hl with h2 | h2
    · exact absurd rfl h2
    · exact h2
  have hj : ∀ b l, M.ω b = some l → (M.join W M1).ω b = some l := fun b l hl => by
    have := h.lt b l hl
    simp only [Mem.join]
    rw [if_pos this]
    exact hl
  have hj1 : ∀ b l, M1.ω b = some l → (M.join W M1).ω b = some l := fun b l hl => by
    have := hnew b l hl
    simp only [Mem.join]
    rw [if_neg (by omega)]
    exact hl
  have hk : Keep M W (M.join W M1) W1 := ⟨he.frz0, fun b hb => hcl.block b (h.frz b hb).2, he.ρ, fun t i o ht => by simp only [Mem.join]; rw [if_pos ht], he.β, he.nt, he.nb⟩
  refine ⟨?_, hk, ?_, hcl⟩
  · exact {
      nt := by rw [hnt]; exact h1.nt
      nb := by rw [hnb]; exact h1.nb
      box := fun b c hb => by
        rcases hB b c hb with ⟨hlt, hb'⟩ | ⟨hb', hns⟩
        · obtain ⟨k1, cs, ty, k2, k3, k4⟩ := h.box b c hb'
          have e : (M.join W M1).β b = M.β b := he.β b k1
          refine ⟨Nat.lt_of_lt_of_le k1 he.nb, cs, ty, ?_, ?_, hk.leaves k4⟩
          · rw [e, hcl.block _ (h.lt _ _ k3)]; exact k2
          · rw [e]; exact hj _ _ k3
        · obtain ⟨k1, cs, ty, k2, k3, k4⟩ := h1.box b c hb'
          refine ⟨k1, cs, ty, k2, hj1 _ _ k3, k4.imp_mem fun x v hx hv => ?_⟩
          have := List.all_eq_true.1 hns x hx
          cases x <;> first | exact hv | simp [nsL] at this
      row := fun t r hr => by
        rcases hR t r hr with ⟨hlt, hr'⟩ | ⟨hge, hr'⟩
        · obtain ⟨k1, k2⟩ := h.row t r hr'
          exact ⟨Nat.lt_of_lt_of_le k1 he.nt, hk.row k1 (fun _ b hl => ⟨hj _ _ hl, hcl.block _ (h.lt _ _ hl)⟩) k2⟩
        · obtain ⟨k1, k2⟩ := h1.row t r hr'
          refine ⟨k1, ?_⟩
          rcases k2 with ⟨w1, B, w2, w3, w4⟩ | k2
          · refine .inl ⟨w1, B, w2, fun b hb => hj1 _ _ (w3 b hb), fun j i z ys hl b o n c hρ => ?_⟩
            simp only [Mem.join]
            rw [if_neg (by rw [h.nt]; omega)]
            exact w4 j i z ys hl b o n c hρ
          · exact .inr k2
      frz := fun b hf => by
        have hf' : M1.F b := hf
        refine ⟨?_, (h1.frz b hf').2⟩
        simp only [Mem.join]
        split
        · rename_i hlt
          rcases he.frz b hf' with h2 | h2 | h2
          · exact (h.frz b h2).1
          · exact absurd rfl h2
          · omega
        · exact (h1.frz b hf').1
      lt := fun b l hl => by
        simp only [Mem.join] at hl
        split at hl
        · exact Nat.lt_of_lt_of_le (by assumption) he.size
        · exact h1.lt b l hl
      tok := fun b t hl => by
        simp only [Mem.join] at hl
        split at hl
        · exact Nat.lt_of_lt_of_le (h.tok b t hl) he.nt
        · exact h1.tok b t hl
      bx := fun b k hl => by
        simp only [Mem.join] at hl
        split at hl
        · exact Nat.lt_of_lt_of_le (h.bx b k hl) he.nb
        · exact h1.bx b k hl }
  · refine ⟨he.os, he.tape, he.output, he.size, fun b hb _ => hcl.block b hb, fun b l hl => ?_, fun b hf => ?_, he.frz0, he.nt, he.nb, he.ρ, he.β⟩
    · simp only [Mem.join] at hl
      split at hl
      · left; rw [hl]; simp
      · right; omega
    · rcases he.frz b hf with h2 | h2 | h2
      · exact .inl h2
      · exact absurd rfl h2
      · exact .inr (.inr h2)
theorem killS_bare {M : Mem} {W : World} : Leafy killS M W M.bare W := by
  intro x v h
  cases x <;> first | exact trivial | exact (bare_keep M W).leaf h
theorem killS_join {M M1 : Mem} {W W1 : World} : Leafy killS M1 W1 (M.join W M1) W1 := by
  intro x v h
  cases x <;> first | exact trivial | exact h
theorem St.bare {n : Nat} {M : Mem} {W : World} {s : S} {a : Act} (h : St n M W s a) : St n M.bare W s.bareK a :=
  ⟨h.size, h.defers, fun x hx => killS_bare.all (h.slot x hx), (bare_ok h.mem).slots (fun x => onC killS (s.e x))⟩
theorem joinS_ok {n : Nat} {M M1 : Mem} {W w : World} {s s1 : S} {a a1 : Act} (h : St n M W s a) (h1 : St n M1 w s1 a1) (he : Evo M.bare W M1 w) : St n (M.join W M1) w (joinS s s1) a1 ∧ Evo M W (M.join W M1) w ∧ Cls W w := by
  obtain ⟨j1, j2, j3, j4⟩ := join_ok (s2 := joinS s s1) h.mem h1.mem he rfl rfl (fun t r hr => by
      simp only [joinS] at hr
      split at hr
      · exact .inl ⟨by assumption, hr⟩
      · exact .inr ⟨by omega, hr⟩) (fun b c hb => by
      simp only [joinS] at hb
      split at hb
      · exact .inl ⟨by assumption, hb⟩
      · right
        unfold newBx at hb
        split at hb
        · rename_i c' hc
          split at hb
          · cases hb
            exact ⟨hc, by assumption⟩
          · cases hb
        · cases hb)
  exact ⟨⟨h1.size, h1.defers, fun x hx => killS_join.all (h1.slot x hx), j1⟩, j3, j4⟩
end Go.TM
end
section
namespace Go.TM
open Go
section
variable {P : Program} {all : Array Oper} {Q : Exit → Act → World → Prop} {C : World → Prop} {pre : List Nat}
def anyK (P : Program) (all : Array Oper) (Q : Exit → Act → World → Prop) (C : World → Prop) (pre : List Nat) : Nat → Array Bool → Act → World → Prop
  | 0, listed, a, w => Region.ready .any all listed = [] ∧ Q .normal a w
  | k + 1, listed, a, w => (Region.ready .any all listed = [] → Q .normal a w) ∧
    ∀ i ∈ Region.ready .any all listed, wpOp P all Q i (fun a' w' => (i ∈ pre → C w') ∧ anyK P all Q C pre k (listed.setIfInBounds i true) a' w') a w
theorem anyK_any : ∀ (k : Nat) (listed : Array Bool) (a : Act) (w : World), anyK P all Q C pre k listed a w → wpAny P .any all Q k listed a w
  | 0, _, _, _, h => h
  | k + 1, _, _, _, h => ⟨h.1, fun i hi => wpOp_mono (fun a' w' h' => anyK_any k _ a' w' h'.2) (h.2 i hi)⟩
def ClosedL (all : Array Oper) (listed : Array Bool) : Prop := ∀ j o, all[j]? = some o → listed.getD j true = true → ∀ e ∈ o.after, Region.binds .any e = true → listed.getD e.on false = true
theorem closed_add {listed : Array Bool} (h : ClosedL all listed) {i : Nat} (hi : i ∈ Region.ready .any all listed) : ClosedL all (listed.setIfInBounds i true) := by
  intro j o ho hl e he hb
  by_cases hji : i = j
  · subst hji
    obtain ⟨_, o', ho', hall⟩ := mem_ready.1 hi
    rw [ho] at ho'
    cases ho'
    exact getD_set_true (hall e he hb)
  · rw [getD_set_ne true hji] at hl
    exact getD_set_true (h j o ho hl e he hb)
theorem listed_of {listed : Array Bool} {j : Nat} (h : listed.getD j false = true) : listed.getD j true = true := by
  rcases Nat.lt_or_ge j listed.size with h' | h'
  · simpa [h'] using h
  · simp [Array.getElem?_eq_none h'] at h
theorem edge_spec {q p : Nat} (h : edgeB all q p = true) : ∃ o, all[q]? = some o ∧ ∃ e ∈ o.after, Region.binds .any e = true ∧ e.on = p := by
  unfold edgeB at h
  cases ho : all[q]? with
  | none => rw [ho] at h; cases h
  | some o =>
    rw [ho] at h
    simp only [Option.any_some, List.any_eq_true, Bool.and_eq_true, beq_iff_eq] at h
    obtain ⟨e, he, h1, h2⟩ := h
    exact ⟨o, rfl, e, by simpa using he, h1, h2⟩
def TwoCut (all : Array Oper) (pre tl : List Nat) : Prop := ∀ listed, ClosedL all listed → ∀ j ∈ tl, j ∈ Region.ready .any all listed → ∀ p ∈ pre, listed.getD p false = true
theorem path_ok {t0 : Nat} {listed : Array Bool} (hc : ClosedL all listed) (ht : ∀ o, all[t0]? = some o → ∀ e ∈ o.after, Region.binds .any e = true → listed.getD e.on false = true) :
    ∀ (f i : Nat), pathB all t0 f i = true → listed.getD i false = true
  | 0, i, h => by simp [pathB] at h
  | f + 1, i, h => by
    simp only [pathB, Bool.or_eq_true, List.any_eq_true, Bool.and_eq_true] at h
    rcases h with h | ⟨q, _, h1, h2⟩
    · obtain ⟨o, ho, e, hea, hb, rfl⟩ := edge_spec h
      exact ht o ho e hea hb
    · have hq := path_ok hc ht f q h2
      obtain ⟨o, ho, e, hea, hb, rfl⟩ := edge_spec h1
      exact hc q o ho (listed_of hq) e hea hb
theorem two_ok {t0 : Nat} {tl : List Nat} (h1 : pre.all (fun i => pathB all t0 all.size i) = true) (h2 : tl.all (fun j => (t0 :: tl).any fun k => decide (k < j) && edgeB all j k) = true) : TwoCut all pre (t0 :: tl) := by
  simp only [List.all_eq_true] at h1
  simp only [List.all_eq_true, List.any_eq_true, Bool.and_eq_true, decide_eq_true_eq] at h2
  have c1 : ∀ listed, ClosedL all listed → (∀ o, all[t0]? = some o → ∀ e ∈ o.after, Region.binds .any e = true → listed.getD e.on false = true) → ∀ p ∈ pre, listed.getD p false = true :=
    fun listed hc ht p hp => path_ok hc ht _ p (h1 p hp)
  have c2 : ∀ listed, ClosedL all listed → ∀ (m j : Nat), j ≤ m → j ∈ t0 :: tl → listed.getD j false = true → ∀ p ∈ pre, listed.getD p false = true := by
    intro listed hc m
    induction m with
    | zero =>
      intro j hj hjm hl
      rcases List.mem_cons.1 hjm with rfl | hjt
      · exact c1 listed hc fun o ho => hc j o ho (listed_of hl)
      · obtain ⟨k, _, hlt, _⟩ := h2 j hjt
        omega
    | succ m ih =>
      intro j hj hjm hl
      rcases List.mem_cons.1 hjm with rfl | hjt
      · exact c1 listed hc fun o ho => hc j o ho (listed_of hl)
      · obtain ⟨k, hk, hlt, he⟩ := h2 j hjt
        obtain ⟨o, ho, e, hea, hb, rfl⟩ := edge_spec he
        exact ih e.on (by omega) hk (hc j o ho (listed_of hl) e hea hb)
  intro listed hc j hj hr
  obtain ⟨_, o, ho, hall⟩ := mem_ready.1 hr
  rcases List.mem_cons.1 hj with rfl | hjt
  · exact c1 listed hc fun o' ho' e he hb => by
      rw [ho] at ho'
      cases ho'
      exact hall e he hb
  · obtain ⟨k, hk, hlt, he⟩ := h2 j hjt
    obtain ⟨o', ho', e, hea, hb, rfl⟩ := edge_spec he
    rw [ho] at ho'
    cases ho'
    exact c2 listed hc _ e.on (Nat.le_refl _) hk (hall e hea hb)
theorem ready_not {listed : Array Bool} {i j : Nat} (hi : i ∈ Region.ready .any all listed) (hj : j ∈ Region.ready .any all listed) : listed.getD j true = false ∧ ∃ oj, all[j]? = some oj ∧ ∀ e ∈ oj.after, Region.binds .any e = true → e.on ≠ i := by
  obtain ⟨hjun, oj, hoj, hall⟩ := mem_ready.1 hj
  refine ⟨hjun, oj, hoj, fun e he hb heq => ?_⟩
  have h1 := hall e he hb
  have h0 := (mem_ready.1 hi).1
  rw [heq] at h1
  rw [listed_of h1] at h0
  cases h0
theorem anyK_first {T : World → Prop} {G : Array Bool → Prop} {i : Nat} {oi : Oper} {v : Value} (hi : all[i]? = some oi) (hs : Region.noSelect all = true) (hQ : ∀ c a w, ¬ Q (.panic c) a w)
    (hG : ∀ listed j, G listed → listed.getD i true = false → j ∈ Region.ready .any all listed → j ≠ i → G (listed.setIfInBounds j true) ∧ ∀ w', (j ∈ pre → C w') → T w') (hTC : ∀ w, T w → i ∈ pre → C w) :
    ∀ (k : Nat) (listed : Array Bool) (a : Act) (w : World),
      (∀ j oj, all[j]? = some oj → j ≠ i → listed.getD j true = false → (∀ e ∈ oj.after, Region.binds .any e = true → e.on ≠ i) → oi.apart all oj = true) →
      G listed → i ∈ Region.ready .any all listed → YieldsIf P all T oi v a → T w →
      anyK P all Q C pre k (listed.setIfInBounds i true) (a.put oi.dst v) w → anyK P all Q C pre (k + 1) listed a w := by
  have hsel := Region.noSelect_spec hs
  intro k
  induction k with
  | zero =>
    intro listed a w _ hg hr hy hT H
    refine ⟨fun h => (by rw [h] at hr; cases hr), fun j hj => ?_⟩
    by_cases hji : j = i
    · subst hji; exact hy.wpOp hi hT ⟨hTC w hT, H⟩
    · have := ready_mono hj hji
      rw [H.1] at this
      cases this
  | succ k ih =>
    intro listed a w hfree hg hr hy hT H
    refine ⟨fun h => (by rw [h] at hr; cases hr), fun j hj => ?_⟩
    by_cases hji : j = i
    · subst hji; exact hy.wpOp hi hT ⟨hTC w hT, H⟩
    · obtain ⟨hjun, oj, hoj, hnot⟩ := ready_not hr hj
      obtain ⟨hg', hT'⟩ := hG listed j hg (mem_ready.1 hr).1 hj hji
      have h2 := wpOp_putIf hoj (hfree j oj hoj hji hjun hnot) (fun cs b => hsel i oi cs b hi) (fun cs b => hsel j oj cs b hoj) (fun c a w h => (hQ _ _ _ h).elim) hy (H.2 j (ready_mono hj hji))
      have hfree' : ∀ l ol, all[l]? = some ol → l ≠ i → (listed.setIfInBounds j true).getD l true = false → (∀ e ∈ ol.after, Region.binds .any e = true → e.on ≠ i) → oi.apart all ol = true := fun l ol hl hli hun hno => by
        refine hfree l ol hl hli ?_ hno
        by_cases hjl : j = l
        · subst hjl; exact hjun
        · rw [getD_set_ne true hjl] at hun; exact hun
      refine wpOp_mono (fun a' w' h3 => ⟨h3.2.1, ih (listed.setIfInBounds j true) a' w' hfree' hg' (ready_mono hr (Ne.symm hji)) h3.1 (hT' w' h3.2.1) ?_⟩) h2
      rw [Array.setIfInBounds_comm _ _ hji]
      exact h3.2.2
theorem anyK_rig {i : Nat} {oi : Oper} {v : Value} {k : Nat} {listed : Array Bool} {a : Act} {w : World} (hi : all[i]? = some oi) (hs : Region.noSelect all = true) (hQ : ∀ c a w, ¬ Q (.panic c) a w) (hip : i ∉ pre)
    (hf : Region.free .any all listed i = true) (hr : (Region.ready .any all listed).contains i = true) (hy : YieldsIf P all (fun _ => True) oi v a)
    (h : anyK P all Q C pre k (listed.setIfInBounds i true) (a.put oi.dst v) w) : anyK P all Q C pre (k + 1) listed a w :=
  anyK_first (T := fun _ => True) (G := fun _ => True) hi hs hQ (fun _ _ _ _ _ _ => ⟨trivial, fun _ _ => trivial⟩) (fun _ _ h => absurd h hip) k listed a w (Region.free_spec hi hf) trivial (by simpa using hr) hy trivial h
theorem anyK_pre {tl pr : List Nat} (hcut : TwoCut all pr tl) (hsub : ∀ i ∈ pr, i ∈ pre) {i : Nat} {oi : Oper} {v : Value} {k : Nat} {listed : Array Bool} {a : Act} {w : World} (hi : all[i]? = some oi) (hs : Region.noSelect all = true) (hQ : ∀ c a w, ¬ Q (.panic c) a w) (hip : i ∈ pr)
    (hcl : ClosedL all listed) (hrest : ∀ j, j < all.size → j ∉ pre → j ∉ tl → listed.getD j false = true)
    (hf : Region.free .any all listed i = true) (hr : (Region.ready .any all listed).contains i = true) (hy : YieldsIf P all C oi v a) (hC : C w)
    (h : anyK P all Q C pre k (listed.setIfInBounds i true) (a.put oi.dst v) w) : anyK P all Q C pre (k + 1) listed a w :=
  anyK_first (T := C) (G := fun listed => ClosedL all listed ∧ ∀ j, j < all.size → j ∉ pre → j ∉ tl → listed.getD j false = true) hi hs hQ
    (fun listed j hg hun hj hji => by
      refine ⟨⟨closed_add hg.1 hj, fun l hl h1 h2 => getD_set_true (hg.2 l hl h1 h2)⟩, fun w' hw' => hw' ?_⟩
      have hjs : j < all.size := by
        obtain ⟨_, o, ho, _⟩ := mem_ready.1 hj
        rw [Array.getElem?_eq_some_iff] at ho
        exact ho.1
      by_cases hjp : j ∈ pre
      · exact hjp
      · exfalso
        by_cases hjt : j ∈ tl
        · have := hcut listed hg.1 j hjt hj i hip
          rw [listed_of this] at hun
          cases hun
        · have := hg.2 j hjs hjp hjt
          have h0 := (mem_ready.1 hj).1
          rw [listed_of this] at h0
          cases h0)
    (fun _ h _ => h) k listed a w (Region.free_spec hi hf) ⟨hcl, hrest⟩ (by simpa using hr) hy hC h
theorem anyK_one {i : Nat} {k : Nat} {listed : Array Bool} {a : Act} {w : World} (hr : Region.ready .any all listed = [i]) (h : wpOp P all Q i (fun a' w' => (i ∈ pre → C w') ∧ anyK P all Q C pre k (listed.setIfInBounds i true) a' w') a w) : anyK P all Q C pre (k + 1) listed a w :=
  ⟨fun h0 => (by rw [hr] at h0; cases h0), fun j hj => by
    rw [hr] at hj
    obtain rfl : j = i := by simpa using hj
    exact h⟩
theorem anyK_done {listed : Array Bool} {a : Act} {w : World} (hr : Region.ready .any all listed = []) (h : Q .normal a w) : ∀ k, anyK P all Q C pre k listed a w
  | 0 => ⟨hr, h⟩
  | _ + 1 => ⟨fun _ => h, by rw [hr]; simp⟩
end
section
variable {P : Program} {E : Env} {n : Nat}
theorem run_rigid {all : Array Oper} {o : Oper} (h : isMove o = true) (a : Act) : ∃ v, YieldsIf P all (fun _ => True) o v a ∧ ∀ w, (execOp a.eval o).run P w = .ok (.value v) w := by
  unfold isMove at h
  split at h
  · rename_i x ho hg
    have hrun : ∀ w, (execOp a.eval o).run P w = .ok (.value (a.eval x)) w := fun w => by
      simp only [execOp, ho]
      rfl
    exact ⟨a.eval x, .inl ⟨by simp [Region.wanted, hg], fun w _ => hrun w⟩, hrun⟩
  · cases h
theorem run_rig {all : Array Oper} {o : Oper} (h : isRig o = true) {a : Act} {val : Value} {w0 : World} (hv : (execOp a.eval o).run P w0 = .ok (.value val) w0) : YieldsIf P all (fun _ => True) o val a := by
  unfold isRig at h
  split at h
  · rename_i x ho hg
    refine .inl ⟨by simp [Region.wanted, hg], fun w _ => ?_⟩
    simp only [execOp, ho] at hv ⊢
    cases hv
    rfl
  · rename_i x k ho hg
    refine .inl ⟨by simp [Region.wanted, hg], fun w _ => ?_⟩
    simp only [execOp, ho, Instr.extract] at hv ⊢
    generalize a.eval x = v at hv ⊢
    cases v <;> try (cases hv; done)
    rename_i vs
    simp only at hv ⊢
    generalize vs[k]? = u at hv ⊢
    cases u with
    | none => cases hv
    | some u => cases hv; rfl
  · cases h
theorem alloc_cls (env : EnvOK P E) {M : Mem} {W : World} {s : S} {a : Act} {o : Oper} {all : Array Oper} {t : TypeId} (ho : o.op = .alloc t) (hg : o.guard = none) {K0 : S → Prop} (hw : opsW E false all [o] s K0) {K : Act → World → Prop} {Q : Exit → Act → World → Prop} (h : o.wp P a W K Q) :
    o.wp P a W (fun a' w' => K a' w' ∧ Cls W w') Q := by
  simp only [opsW, ho, hg, stepR, opR] at hw
  have hc := hw.2.1.1
  cases ht : E.ti t with
  | none => rw [ht] at hc; exact hc.elim
  | some tt =>
    obtain ⟨ie, hie, his, hib, z, hzz, hzr⟩ := (env.ti t tt ht).info
    have hr : ∃ v w', (execOp a.eval o).run P W = .ok (.value v) w' ∧ Cls W w' := by
      refine ⟨.pointer (some ⟨W.heap.size, 0, none⟩), W.alloc (.cells z.cells t), (by simp [execOp, ho, Instr.alloc, zeroValue, typeInfo, hie, hzz, newVar, newRow]), ⟨rfl, rfl, rfl, by simp, fun y hy => heap_alloc_old W _ hy⟩⟩
    obtain ⟨v, w', hr, hcl⟩ := hr
    unfold Oper.wp at h ⊢
    rw [hr] at h ⊢
    exact ⟨h, hcl⟩
theorem Cls_trans {W w w' : World} (h : Cls W w) (k : Cls w w') : Cls W w' :=
  ⟨k.os.trans h.os, k.tape.trans h.tape, k.output.trans h.output, Nat.le_trans h.size k.size, fun b hb => (k.block b (Nat.lt_of_lt_of_le hb h.size)).trans (h.block b hb)⟩
theorem tree_one (env : EnvOK P E) {all : Array Oper} (hall : all.toList.all (okO n) = true) {Q : Exit → Act → World → Prop} {M0 : Mem} {W W0 : World} {kp : List Nat} {i : Nat} {q c : Bool} (hea : okEa all kp c q i = true) {s : S} {a : Act} {w : World} {M : Mem} (hc : c = true → Cls W w) (h : St n M w s a) (he : Evo M0 W0 M w) {K : S → Prop} (hw : memW E all q i s K)
    {R : Act → World → Prop} (go : ∀ s' a' w' M', ((c && okCls all q i) = true → Cls W w') → St n M' w' s' a' → Evo M0 W0 M' w' → K s' → R a' w') : wpOp P all Q i (fun a' w' => (i ∈ kp → Cls W w') ∧ R a' w') a w := by
  unfold memW at hw
  split at hw
  · rename_i o ho
    have hoo := okO_at hall ho
    unfold wpOp
    simp only [ho]
    have hk1 : i ∈ kp → c = true ∧ okCls all q i = true := fun hi => by
      simpa only [okEa, List.contains_iff_mem, if_pos hi, Bool.and_eq_true] using hea
    have both : ∀ {s' a' w' M'}, Cls w w' → St n M' w' s' a' → Evo M0 W0 M' w' → K s' → (i ∈ kp → Cls W w') ∧ R a' w' := fun h1 h2 h3 h4 =>
      ⟨fun hi => Cls_trans (hc (hk1 hi).1) h1, go _ _ _ _ (fun h5 => Cls_trans (hc (by simp only [Bool.and_eq_true] at h5; exact h5.1)) h1) h2 h3 h4⟩
    rcases up env hall h hoo hw with ⟨h4, s', h5, h6⟩ | ⟨h4, h5⟩
    · rw [h4, if_neg (by simp)]
      exact both ⟨rfl, rfl, rfl, Nat.le_refl _, fun _ _ => rfl⟩ h6 he h5
    · rw [h4, if_pos rfl]
      left
      rcases h5 with ⟨val, M', s', h5, h6, h7, -, h9⟩ | ⟨hq, h5⟩
      · refine wp_of_quietAt h5 fun w' hw' => ?_
        exact both hw' (h6.cls hw') (he.trans (h7.trans (hw'.evo M'))) h9
      · by_cases hi : okCls all q i = true
        · have hal := hi
          simp only [okCls, ho, Option.any_some, clsOp, hq, Bool.false_or] at hal
          split at hal
          · rename_i t ht
            have hg : o.guard = none := by simpa using hal
            subst hq
            refine Oper.wp_imp ?_ (alloc_cls env (M := M) ht hg hw (h5 Q))
            rintro a' w' ⟨⟨val, M', s', rfl, h6, h7, h9⟩, h10⟩
            exact both h10 h6 (he.trans h7) h9
          · cases hal
        · refine Oper.wp_imp ?_ (h5 Q)
          rintro a' w' ⟨val, M', s', rfl, h6, h7, h9⟩
          exact ⟨fun h => absurd (hk1 h).2 hi, go _ _ _ _ (fun h5 => by simp only [Bool.and_eq_true] at h5; exact absurd h5.2 hi) h6 (he.trans h7) h9⟩
  · exact hw.elim
theorem anyK_three {all : Array Oper} {Q : Exit → Act → World → Prop} {C : World → Prop} {pre : List Nat} {i j l : Nat} {k : Nat} {listed : Array Bool} {a : Act} {w : World} (hr : Region.ready .any all listed = [i, j, l]) (h : wpOp P all Q i (fun a' w' => (i ∈ pre → C w') ∧ anyK P all Q C pre k (listed.setIfInBounds i true) a' w') a w) (h' : wpOp P all Q j (fun a' w' => (j ∈ pre → C w') ∧ anyK P all Q C pre k (listed.setIfInBounds j true) a' w') a w) (h'' : wpOp P all Q l (fun a' w' => (l ∈ pre → C w') ∧ anyK P all Q C pre k (listed.setIfInBounds l true) a' w') a w) : anyK P all Q C pre (k + 1) listed a w :=
  ⟨fun h0 => (by rw [hr] at h0; cases h0), fun m hm => by
    rw [hr] at hm
    simp only [List.mem_cons, List.not_mem_nil, or_false] at hm
    rcases hm with rfl | rfl | rfl
    · exact h
    · exact h'
    · exact h''⟩
theorem anyK_two {all : Array Oper} {Q : Exit → Act → World → Prop} {C : World → Prop} {pre : List Nat} {i j : Nat} {k : Nat} {listed : Array Bool} {a : Act} {w : World} (hr : Region.ready .any all listed = [i, j]) (h : wpOp P all Q i (fun a' w' => (i ∈ pre → C w') ∧ anyK P all Q C pre k (listed.setIfInBounds i true) a' w') a w) (h' : wpOp P all Q j (fun a' w' => (j ∈ pre → C w') ∧ anyK P all Q C pre k (listed.setIfInBounds j true) a' w') a w) : anyK P all Q C pre (k + 1) listed a w :=
  ⟨fun h0 => (by rw [hr] at h0; cases h0), fun l hl => by
    rw [hr] at hl
    simp only [List.mem_cons, List.not_mem_nil, or_false] at hl
    rcases hl with rfl | rfl
    · exact h
    · exact h'⟩
theorem bare_run (env : EnvOK P E) {all : Array Oper} (hall : all.toList.all (okO n) = true) {K : S → Prop} {Q : Exit → Act → World → Prop} {W w0 : World} {kp : List Nat} {Mb : Mem} (h0 : Cls W w0) (hMb : ∀ b, Mb.ω b = none)
    (hK : ∀ s a w M, K s → St n M w s a → Evo Mb w0 M w → Q .normal a w) :
    ∀ (t : TT) (listed : Array Bool) (k : Nat) (s : S) (a : Act) (w : World) (M : Mem), t.depth ≤ k → okTB all listed t = true → St n M w s a → Evo Mb w0 M w → treeW E all t s K → anyK P all Q (Cls W) kp k listed a w := by
  have cls : ∀ {M w}, Evo Mb w0 M w → Cls W w := fun he => Cls_trans h0 ⟨he.os, he.tape, he.output, he.size, fun b hb => he.old b hb (hMb b)⟩
  have step : ∀ {i : Nat} {q : Bool} {s : S} {a : Act} {w : World} {M : Mem} {K0 : S → Prop} {R : Act → World → Prop}, St n M w s a → Evo Mb w0 M w → memW E all q i s K0 → (∀ s' a' w' M', St n M' w' s' a' → Evo Mb w0 M' w' → K0 s' → R a' w') → wpOp P all Q i (fun a' w' => (i ∈ kp → Cls W w') ∧ R a' w') a w := fun h he hw go =>
    wpOp_mono (fun a' w' h1 => ⟨fun _ => h1.2.1, h1.2.2⟩) (tree_one (kp := []) (W := W) (c := false) (R := fun a' w' => Cls W w' ∧ _) env hall (by simp [okEa]) (by simp) h he hw fun s' a' w' M' c1 c2 c3 c4 => ⟨cls c3, go s' a' w' M' c2 c3 c4⟩)
  intro t
  induction t with
  | done => intro listed k s a w M _ hok h he hw; exact anyK_done (by simpa [okTB] using hok) (hK s a w M hw h he) k
  | one q i t ih =>
    intro listed k s a w M hf hok h he hw
    cases k with
    | zero => simp [TT.depth] at hf
    | succ k =>
      simp only [okTB, Bool.and_eq_true, beq_iff_eq] at hok
      simp only [treeW] at hw
      simp only [TT.depth] at hf
      exact anyK_one hok.1 (step h he hw fun s' a' w' M' c2 c3 c4 => ih _ k s' a' w' M' (by omega) hok.2 c2 c3 c4)
  | two q i t q' j t' ih ih' =>
    intro listed k s a w M hf hok h he hw
    cases k with
    | zero => simp [TT.depth] at hf
    | succ k =>
      simp only [okTB, Bool.and_eq_true, beq_iff_eq] at hok
      simp only [treeW] at hw
      simp only [TT.depth] at hf
      exact anyK_two hok.1.1 (step h he hw.1 fun s' a' w' M' c2 c3 c4 => ih _ k s' a' w' M' (by omega) hok.1.2 c2 c3 c4) (step h he hw.2 fun s' a' w' M' c2 c3 c4 => ih' _ k s' a' w' M' (by omega) hok.2 c2 c3 c4)
  | three q i t q' j t' q'' l t'' ih ih' ih'' =>
    intro listed k s a w M hf hok h he hw
    cases k with
    | zero => simp [TT.depth] at hf
    | succ k =>
      simp only [okTB, Bool.and_eq_true, beq_iff_eq] at hok
      simp only [treeW] at hw
      simp only [TT.depth] at hf
      exact anyK_three hok.1.1.1 (step h he hw.1 fun s' a' w' M' c2 c3 c4 => ih _ k s' a' w' M' (by omega) hok.1.1.2 c2 c3 c4) (step h he hw.2.1 fun s' a' w' M' c2 c3 c4 => ih' _ k s' a' w' M' (by omega) hok.1.2 c2 c3 c4) (step h he hw.2.2 fun s' a' w' M' c2 c3 c4 => ih'' _ k s' a' w' M' (by omega) hok.2 c2 c3 c4)
  | bare t ih => intro listed k s a w M hf hok; simp [okTB] at hok
  | rig i t ih => intro listed k s a w M hf hok; simp [okTB] at hok
theorem tree_run (env : EnvOK P E) {all : Array Oper} (hall : all.toList.all (okO n) = true) (hns : Region.noSelect all = true) {K : S → Prop} {Q : Exit → Act → World → Prop} (hQ : ∀ c a w, ¬ Q (.panic c) a w) {M0 : Mem} {W W0 : World} {kp : List Nat}
    (hK : ∀ s a w M, K s → St n M w s a → Evo M0 W0 M w → Q .normal a w) :
    ∀ (t : TT) (c : Bool) (listed : Array Bool) (k : Nat) (s : S) (a : Act) (w : World) (M : Mem), t.depth ≤ k → okTT all kp c listed t = true → (c = true → Cls W w) → St n M w s a → Evo M0 W0 M w → treeW E all t s K → anyK P all Q (Cls W) kp k listed a w
  | .done, c, listed, k, s, a, w, M, _, hok, _, h, he, hw => anyK_done (by simpa [okTT] using hok) (hK s a w M hw h he) k
  | .one q i t, c, listed, 0, s, a, w, M, hf, _, _, _, _, _ => by simp [TT.depth] at hf
  | .one q i t, c, listed, k + 1, s, a, w, M, hf, hok, hc, h, he, hw => by
    simp only [okTT, Bool.and_eq_true, beq_iff_eq] at hok
    obtain ⟨⟨h1, h2⟩, h3⟩ := hok
    simp only [treeW] at hw
    refine anyK_one h1 (tree_one env hall h2 hc h he hw fun s' a' w' M' c1 c2 c3 c4 => ?_)
    refine tree_run env hall hns hQ hK t (c && okCls all q i) _ k s' a' w' M' ?_ (by simpa only [Bool.and_eq_true] using h3) c1 c2 c3 c4
    simp only [TT.depth] at hf
    omega
  | .rig i t, c, listed, 0, s, a, w, M, hf, _, _, _, _, _ => by simp [TT.depth] at hf
  | .rig i t, c, listed, k + 1, s, a, w, M, hf, hok, hc, h, he, hw => by
    simp only [okTT, Bool.and_eq_true, Bool.not_eq_true', ← Bool.not_eq_true, List.contains_iff_mem] at hok
    obtain ⟨⟨⟨⟨h1, h2⟩, h3⟩, h4⟩, h5⟩ := hok
    simp only [treeW, rigW] at hw
    simp only [TT.depth] at hf
    split at hw
    · rename_i o ho
      obtain ⟨hp, hw⟩ := hw
      have hoo := okO_at hall ho
      have hrg : isRig o = true := by rw [ho] at h1; simpa using h1
      rcases up env hall h hoo hw with ⟨h6, s', h7, h8⟩ | ⟨h6, h7⟩
      · exfalso
        unfold isRig at hrg
        split at hrg
        · rename_i hg
          simp [Region.wanted, hg] at h6
        · rename_i hg
          simp [Region.wanted, hg] at h6
        · cases hrg
      · rcases h7 with ⟨val, M', s', h7, h8, h9, h10, h11⟩ | ⟨h7, -⟩
        · obtain ⟨rfl, h12⟩ := h10 hp
          exact anyK_rig ho hns hQ h4 h2 (by simpa using h3) (run_rig hrg (h12 w ⟨rfl, rfl, rfl, Nat.le_refl _, fun _ _ => rfl⟩)) (tree_run env hall hns hQ hK t c _ k s' _ w _ (by omega) h5 hc h8 he h11)
        · cases h7
    · exact hw.elim
  | .two q i t q' j t', c, listed, 0, s, a, w, M, hf, _, _, _, _, _ => by simp [TT.depth] at hf
  | .two q i t q' j t', c, listed, k + 1, s, a, w, M, hf, hok, hc, h, he, hw => by
    simp only [okTT, Bool.and_eq_true, beq_iff_eq] at hok
    obtain ⟨⟨⟨⟨h1, h2⟩, h3⟩, h4⟩, h5⟩ := hok
    simp only [treeW] at hw
    simp only [TT.depth] at hf
    refine anyK_two h1 (tree_one env hall h2 hc h he hw.1 fun s' a' w' M' c1 c2 c3 c4 => ?_) (tree_one env hall h3 hc h he hw.2 fun s' a' w' M' c1 c2 c3 c4 => ?_)
    · exact tree_run env hall hns hQ hK t (c && okCls all q i) _ k s' a' w' M' (by omega) (by simpa only [Bool.and_eq_true] using h4) c1 c2 c3 c4
    · exact tree_run env hall hns hQ hK t' (c && okCls all q' j) _ k s' a' w' M' (by omega) (by simpa only [Bool.and_eq_true] using h5) c1 c2 c3 c4
  | .bare t, c, listed, k, s, a, w, M, hf, hok, hc, h, he, hw => by
    simp only [okTT, Bool.and_eq_true] at hok
    simp only [treeW] at hw
    refine bare_run (w0 := w) (Mb := M.bare) env hall (hc hok.1) (fun _ => rfl) (fun s1 a1 w1 M1 k1 k2 k3 => ?_) t listed k s.bareK a w M.bare hf hok.2 h.bare (Evo.refl _ _) hw
    obtain ⟨j1, j2, _⟩ := joinS_ok h k2 k3
    exact hK _ _ _ _ k1 j1 (he.trans j2)
  | .three q i t q' j t' q'' l t'', c, listed, 0, s, a, w, M, hf, _, _, _, _, _ => by simp [TT.depth] at hf
  | .three q i t q' j t' q'' l t'', c, listed, k + 1, s, a, w, M, hf, hok, hc, h, he, hw => by
    simp only [okTT, Bool.and_eq_true, beq_iff_eq] at hok
    obtain ⟨⟨⟨⟨⟨⟨h1, h2⟩, h3⟩, h4⟩, h5⟩, h6⟩, h7⟩ := hok
    simp only [treeW] at hw
    simp only [TT.depth] at hf
    refine anyK_three h1 (tree_one env hall h2 hc h he hw.1 fun s' a' w' M' c1 c2 c3 c4 => ?_) (tree_one env hall h3 hc h he hw.2.1 fun s' a' w' M' c1 c2 c3 c4 => ?_) (tree_one env hall h4 hc h he hw.2.2 fun s' a' w' M' c1 c2 c3 c4 => ?_)
    · exact tree_run env hall hns hQ hK t (c && okCls all q i) _ k s' a' w' M' (by omega) (by simpa only [Bool.and_eq_true] using h5) c1 c2 c3 c4
    · exact tree_run env hall hns hQ hK t' (c && okCls all q' j) _ k s' a' w' M' (by omega) (by simpa only [Bool.and_eq_true] using h6) c1 c2 c3 c4
    · exact tree_run env hall hns hQ hK t'' (c && okCls all q'' l) _ k s' a' w' M' (by omega) (by simpa only [Bool.and_eq_true] using h7) c1 c2 c3 c4
theorem pre_run (env : EnvOK P E) {all : Array Oper} (hall : all.toList.all (okO n) = true) (hns : Region.noSelect all = true) {K : S → Prop} {Q : Exit → Act → World → Prop} (hQ : ∀ c a w, ¬ Q (.panic c) a w) {M0 : Mem} {W0 W : World} {pr kp tl : List Nat} (hcut : TwoCut all pr tl) (hsub : ∀ i ∈ pr, i ∈ kp) {tt : TT}
    (hK : ∀ s a w M, K s → St n M w s a → Evo M0 W0 M w → Q .normal a w) :
    ∀ (pl : List (Nat × Bool)) (listed l2 : Array Bool) (k : Nat) (u : S) (a : Act) (w : World) (M : Mem), pl.length + tt.depth ≤ k → (∀ y ∈ pl, y.1 ∈ pr) → ClosedL all listed → (∀ j, j < all.size → j ∉ kp → j ∉ tl → listed.getD j false = true) →
      okPre all listed pl = some l2 → okTT all kp true l2 tt = true → St n M W u a → Evo M0 W0 M W → Cls W w → preW E all pl u (fun u => treeW E all tt u K) → anyK P all Q (Cls W) kp k listed a w
  | [], listed, l2, k, u, a, w, M, hf, _, _, _, hok, hok2, h, he, hw, hp => by
    simp only [okPre, Option.some.injEq] at hok
    subst hok
    exact tree_run env hall hns hQ hK tt true listed k u a w M (by simpa using hf) hok2 (fun _ => hw) (h.cls hw) (he.trans (hw.evo M)) hp
  | (i, b) :: pl, listed, l2, 0, u, a, w, M, hf, _, _, _, _, _, _, _, _, _ => by simp at hf
  | (i, false) :: pl, listed, l2, k + 1, u, a, w, M, hf, hin, hcl, hrest, hok, hok2, h, he, hw, hp => by
    simp only [okPre, Bool.false_eq_true, if_false] at hok
    split at hok
    · rename_i hc
      simp only [Bool.and_eq_true] at hc
      obtain ⟨h1, h2⟩ := hc
      simp only [preW] at hp
      split at hp
      · rename_i o ho
        obtain ⟨hpu, hp⟩ := hp
        have hoo := okO_at hall ho
        have hrd : i ∈ Region.ready .any all listed := by simpa using h2
        have ih := pre_run (W := W) (tt := tt) env hall hns hQ hcut hsub hK pl (listed.setIfInBounds i true) l2 k
        have hf' : pl.length + tt.depth ≤ k := by simp only [List.length_cons] at hf; omega
        have hin' : ∀ y ∈ pl, y.1 ∈ pr := fun y hy => hin y (by simp [hy])
        have hcl' := closed_add hcl hrd
        have hrest' : ∀ j, j < all.size → j ∉ kp → j ∉ tl → (listed.setIfInBounds i true).getD j false = true := fun j a b c => getD_set_true (hrest j a b c)
        rcases up env hall h hoo hp with ⟨h4, s', h5, h6⟩ | ⟨h4, h5⟩
        · exact anyK_pre hcut hsub ho hns hQ (hin (i, false) (by simp)) hcl hrest h1 h2 (.inr ⟨h4, rfl⟩) hw (ih s' _ w M hf' hin' hcl' hrest' hok hok2 h6 he hw h5)
        · rcases h5 with ⟨val, M', s', h5, h6, h7, h8, h9⟩ | ⟨h5, -⟩
          · obtain ⟨rfl, h10⟩ := h8 (hpu trivial)
            exact anyK_pre hcut hsub ho hns hQ (hin (i, false) (by simp)) hcl hrest h1 h2 (.inl ⟨h4, h10⟩) hw (ih s' _ w M' hf' hin' hcl' hrest' hok hok2 h6 he hw h9)
          · cases h5
      · exact hp.elim
    · cases hok
  | (i, true) :: pl, listed, l2, k + 1, u, a, w, M, hf, hin, hcl, hrest, hok, hok2, h, he, hw, hp => by
    simp only [okPre, if_true] at hok
    split at hok
    · rename_i hc
      have h1 : Region.ready .any all listed = [i] := by simpa using hc
      simp only [preW] at hp
      split at hp
      · rename_i o ho
        obtain ⟨-, hp⟩ := hp
        have hoo := okO_at hall ho
        have hrd : i ∈ Region.ready .any all listed := by rw [h1]; simp
        have ih := pre_run (W := W) (tt := tt) env hall hns hQ hcut hsub hK pl (listed.setIfInBounds i true) l2 k
        have hf' : pl.length + tt.depth ≤ k := by simp only [List.length_cons] at hf; omega
        have hin' : ∀ y ∈ pl, y.1 ∈ pr := fun y hy => hin y (by simp [hy])
        have hcl' := closed_add hcl hrd
        have hrest' : ∀ j, j < all.size → j ∉ kp → j ∉ tl → (listed.setIfInBounds i true).getD j false = true := fun j a b c => getD_set_true (hrest j a b c)
        refine anyK_one h1 ?_
        unfold wpOp
        simp only [ho]
        rcases up env hall h hoo hp with ⟨h4, s', h5, h6⟩ | ⟨h4, h5⟩
        · rw [h4, if_neg (by simp)]
          exact ⟨fun _ => hw, ih s' _ w M hf' hin' hcl' hrest' hok hok2 h6 he hw h5⟩
        · rw [h4, if_pos rfl]
          left
          rcases h5 with ⟨val, M', s', h5, h6, h7, -, h9⟩ | ⟨h5, -⟩
          · exact Go.Oper.wp_of_quiet (C := Cls W) (K := fun a' => a' = a.put o.dst val) hw (fun a' w' hw' e => by
              subst e
              exact ⟨fun _ => hw', ih s' _ w' M' hf' hin' hcl' hrest' hok hok2 h6 (he.trans h7) hw' h9⟩) ⟨val, h5, rfl⟩
          · cases h5
      · exact hp.elim
    · cases hok
theorem okRig_spec {all : Array Oper} : ∀ {rg : List Nat} {listed l1 : Array Bool}, okRig all listed rg = some l1 → ClosedL all listed → ClosedL all l1 ∧ (∀ j, listed.getD j false = true → l1.getD j false = true) ∧ ∀ i ∈ rg, l1.getD i false = true
  | [], listed, l1, h, hc => by
    simp only [okRig, Option.some.injEq] at h
    subst h
    exact ⟨hc, fun _ h => h, by simp⟩
  | i :: rg, listed, l1, h, hc => by
    simp only [okRig] at h
    split at h
    · rename_i hc1
      simp only [Bool.and_eq_true] at hc1
      have hrd : i ∈ Region.ready .any all listed := by simpa using hc1.2
      obtain ⟨a1, a2, a3⟩ := okRig_spec h (closed_add hc hrd)
      refine ⟨a1, fun j hj => a2 j (getD_set_true hj), fun j hj => ?_⟩
      rcases List.mem_cons.1 hj with rfl | hj
      · refine a2 j ?_
        have h0 := (mem_ready.1 hrd).1
        rcases Nat.lt_or_ge j listed.size with h' | h'
        · simp [Array.getElem?_setIfInBounds, h']
        · simp [Array.getElem?_eq_none h'] at h0
      · exact a3 j hj
    · cases h
theorem rig_run (env : EnvOK P E) {all : Array Oper} (hall : all.toList.all (okO n) = true) (hns : Region.noSelect all = true) {Q : Exit → Act → World → Prop} {C : World → Prop} (hQ : ∀ c a w, ¬ Q (.panic c) a w) {W : World} {M : Mem} {pre : List Nat} {KK : S → Prop} {pl : List (Nat × Bool)} {m : Nat} {w : World} (hw : Cls W w) {l1 : Array Bool}
    (hgo : ∀ (k : Nat) (u : S) (a : Act), m ≤ k → St n M W u a → preW E all pl u KK → anyK P all Q C pre k l1 a w) :
    ∀ (rg : List Nat) (listed : Array Bool) (k : Nat) (u : S) (a : Act), rg.length + m ≤ k → (∀ i ∈ rg, i ∉ pre) → okRig all listed rg = some l1 → St n M W u a → preW E all (rg.map (fun i => (i, false)) ++ pl) u KK → anyK P all Q C pre k listed a w
  | [], listed, k, u, a, hm, _, hok, h, hp => by
    simp only [okRig, Option.some.injEq] at hok
    subst hok
    exact hgo k u a (by simpa using hm) h hp
  | i :: rg, listed, 0, u, a, hm, _, _, _, _ => by simp at hm
  | i :: rg, listed, k + 1, u, a, hm, hnp, hok, h, hp => by
    simp only [okRig] at hok
    split at hok
    · rename_i hc
      simp only [Bool.and_eq_true] at hc
      obtain ⟨⟨hmv, h1⟩, h2⟩ := hc
      simp only [List.map_cons, List.cons_append, preW] at hp
      split at hp
      · rename_i o ho
        obtain ⟨hpu, hp⟩ := hp
        have hoo := okO_at hall ho
        have hmv' : isMove o = true := by rw [ho] at hmv; simpa using hmv
        obtain ⟨v, hy, hrun⟩ := run_rigid (P := P) (all := all) hmv' a
        have ih := rig_run env hall hns hQ (C := C) hw hgo rg (listed.setIfInBounds i true) k
        have hf' : rg.length + m ≤ k := by simp only [List.length_cons] at hm; omega
        have hnp' : ∀ i ∈ rg, i ∉ pre := fun j hj => hnp j (by simp [hj])
        rcases up env hall h hoo hp with ⟨h4, s', h5, h6⟩ | ⟨h4, h5⟩
        · exfalso
          unfold isMove at hmv'
          split at hmv'
          · rename_i hg
            simp [Region.wanted, hg] at h4
          · cases hmv'
        · rcases h5 with ⟨val, M', s', h5, h6, h7, h8, h9⟩ | ⟨h5, -⟩
          · obtain ⟨rfl, h10⟩ := h8 (hpu trivial)
            have e := (h10 W ⟨rfl, rfl, rfl, Nat.le_refl _, fun _ _ => rfl⟩).symm.trans (hrun W)
            simp only [Result.ok.injEq, Next.value.injEq, and_true] at e
            subst e
            exact anyK_rig ho hns hQ (hnp i (by simp)) h1 h2 hy (ih s' _ hf' hnp' hok h6 h9)
          · cases h5
      · exact hp.elim
    · cases hok
theorem closed_new (all : Array Oper) : ClosedL all (Array.replicate all.size false) := by
  intro j o ho hl
  exfalso
  rw [Array.getElem?_eq_some_iff] at ho
  obtain ⟨hj, -⟩ := ho
  simp [hj] at hl
theorem cut2_run (env : EnvOK P E) {all : Array Oper} (hall : all.toList.all (okO n) = true) {p : Pl} (hok : okCut all p = true) {K : S → Prop} {Q : Exit → Act → World → Prop} (hQ : ∀ c a w, ¬ Q (.panic c) a w) {M0 : Mem} {W0 W : World}
    (hK : ∀ s a w M, K s → St n M w s a → Evo M0 W0 M w → Q .normal a w) {u : S} {a : Act} {w : World} {M : Mem} (h : St n M W u a) (he : Evo M0 W0 M W) (hw : Cls W w) (hp : preW E all (cutL p) u fun u => treeW E all p.tt u K) :
    wpAny P .any all Q all.size (Array.replicate all.size false) a w := by
  obtain ⟨rg, pl, ea, tl, tt⟩ := p
  simp only [okCut, Bool.and_eq_true, decide_eq_true_eq] at hok
  obtain ⟨⟨⟨⟨⟨⟨⟨hns, hlen⟩, hcov⟩, hpre⟩, hrg⟩, hla⟩, hcut⟩, hsim⟩ := hok
  simp only [List.length_map] at hlen
  simp only [List.all_eq_true, List.mem_range, Bool.or_eq_true, List.contains_iff_mem] at hcov
  simp only [List.all_eq_true, Bool.not_eq_true', ← Bool.not_eq_true, List.contains_iff_mem] at hpre hrg
  have hc : TwoCut all (pl.map (·.1)) tl := by
    cases tl with
    | nil => intro _ _ j hj; cases hj
    | cons t0 tl =>
      simp only [Bool.or_eq_true, Bool.and_eq_true, List.isEmpty_iff] at hcut
      rcases hcut with hcut | hcut
      · rw [hcut]
        intro _ _ _ _ _ _ hp
        cases hp
      · exact two_ok hcut.1 hcut.2
  cases h1 : okRig all (Array.replicate all.size false) rg with
  | none => rw [h1] at hsim; cases hsim
  | some l1 =>
    rw [h1] at hsim
    dsimp only at hsim
    cases h2 : okPre all l1 pl with
    | none => rw [h2] at hsim; cases hsim
    | some l2 =>
      rw [h2] at hsim
      dsimp only at hsim
      obtain ⟨a1, -, a3⟩ := okRig_spec h1 (closed_new all)
      refine anyK_any (C := Cls W) (pre := pl.map (·.1) ++ ea) _ _ _ _ ?_
      refine rig_run (M := M) (m := pl.length + tt.depth) env hall hns hQ hw (fun k u a hk hs hp => ?_) rg _ _ u a (by omega) (fun i hi => hrg i hi) h1 h hp
      refine pre_run env hall hns hQ hc (fun i hi => List.mem_append_left _ hi) hK pl l1 l2 k u a w M hk (fun y hy => List.mem_map_of_mem hy) a1 (fun j hj hjp hjt => ?_) h2 hsim hs he hw hp
      rcases hcov j hj with (h3 | h3) | h3
      · exact a3 j h3
      · exact absurd h3 hjp
      · exact absurd h3 hjt
end
end Go.TM
end
section
namespace Go.TM
open Go
section
variable {P : Program} {E : Env} {n : Nat} {M : Mem} {W : World} {s : S} {a : Act}
def LoopGo (P : Program) (c : Code) (Q : Exit → Act → World → Prop) (a : Act) (w : World) : Prop :=
  ∀ (b : Frame) (k : List Item) (cs : List Frame), ∃ e a' w', Q e a' w' ∧ Arrives P (lone (b.at a (.code c :: .inLoop c :: k)) cs w) b k cs e a' w'
theorem wp_loop_go {c : Code} {Q : Exit → Act → World → Prop} (h : LoopGo P c Q a W) : (Code.loop c).wp P Q a W := by
  intro b k cs
  obtain ⟨e, a', w', hq, harr⟩ := h b k cs
  exact ⟨e, a', w', hq, .of_steps (.one step_loop) harr⟩
theorem loopGo_step {c : Code} {Q : Exit → Act → World → Prop} (h : c.wp P (Exit.then (LoopGo P c Q) Q) a W) : LoopGo P c Q a W := by
  intro b k cs
  obtain ⟨e, a₁, w₁, hq, harr⟩ := h b (.inLoop c :: k) cs
  cases e with
  | normal =>
    obtain ⟨e₂, a₂, w₂, hq₂, harr₂⟩ := hq b k cs
    exact ⟨e₂, a₂, w₂, hq₂, .of_steps (Steps.trans harr (.one step_inLoop)) harr₂⟩
  | exit id => exact ⟨_, a₁, w₁, hq, .pass (x := .inLoop c) rfl (fun _ _ => .inl (by simp)) harr⟩
  | goto l => exact ⟨_, a₁, w₁, hq, .pass (x := .inLoop c) rfl (fun _ _ => .inl (by simp)) harr⟩
  | ret => exact ⟨_, a₁, w₁, hq, .pass (x := .inLoop c) rfl (fun _ _ => .inl (by simp)) harr⟩
  | panic ch => exact ⟨_, a₁, w₁, hq, .pass (x := .inLoop c) rfl (fun _ _ => .inl (by simp)) harr⟩
  | outgrown => exact ⟨_, a₁, w₁, hq, .pass (x := .inLoop c) rfl (fun _ _ => .inl (by simp)) harr⟩
def toExit : X → Exit
  | .normal => .normal
  | .exit id => .exit id
  | .ret => .ret
theorem code_sound (env : EnvOK P E) {M0 : Mem} {W0 : World} : ∀ (c : Code) (K : X → S → Prop) (Q : Exit → Act → World → Prop) (s : S) (a : Act) (W : World) (M : Mem),
    okC E n c = true → (∀ x s' a' W' M', K x s' → St n M' W' s' a' → Evo M0 W0 M' W' → Q (toExit x) a' W') → St n M W s a → Evo M0 W0 M W → codeW E c s K → c.wp P Q a W := by
  intro c
  induction c with
  | skip => intro K Q s a W M hok hK h he hw; exact wp_skip (hK .normal s a W M hw h he)
  | region id ops dr =>
    intro K Q s a W M hok hK h he hw
    simp only [okC, Bool.and_eq_true] at hok
    obtain ⟨hok1, hok2⟩ := hok
    have hd : Cls W { heap := W.heap, tape := W.tape, drawn := W.drawn + 1, os := W.os, output := W.output } := ⟨rfl, rfl, rfl, Nat.le_refl _, fun _ _ => rfl⟩
    cases dr with
    | false =>
      have hw' : opsW E false ops ops.toList s (K .normal) := by simpa only [codeW] using hw
      refine wp_region ?_
      have := region_seq (Q := Q) env hok1 (fun s' a' W' M' h1 h2 h3 => hK .normal s' a' W' M' h1 h2 h3) ops.toList 0 s a W M (by simp) h he hw'
      rwa [List.range_eq_range', ← Array.length_toList]
    | true =>
      cases hpn : E.pln id with
      | some p =>
        have hw' : preW E ops (cutL p) s fun u => treeW E ops p.tt u (K .normal) := by simpa only [codeW, hpn] using hw
        rw [hpn] at hok2
        have key : (Code.region id ops true).wp P (fun e a' w' => e = .normal ∧ Q .normal a' w') a W := by
          refine wp_region_any env.mixed ?_
          exact cut2_run (M0 := M0) (W0 := W0) env hok1 hok2 (fun c a' w' hc => by cases hc.1) (fun s' a' w' M' h1 h2 h3 => ⟨rfl, hK .normal s' a' w' M' h1 h2 h3⟩) h he hd hw'
        refine Code.wp_mono (fun e a' w' hq => ?_) key
        obtain ⟨rfl, hq⟩ := hq
        exact hq
      | none =>
        cases hpl : E.plan id with
        | none =>
          have hw' : opsW E true ops ops.toList s (K .normal) := by simpa only [codeW, hpn, hpl] using hw
          rw [hpn, hpl] at hok2
          refine wp_region_quiet (C := Cls W) env.mixed hok2 hd ?_
          refine region_quiet env hok1 (fun s' a' M' h1 h2 h3 w' hw' => ?_) ops.toList s a M (fun o ho => List.all_eq_true.1 hok1 o ho) h he hw'
          exact hK .normal s' a' w' M' h1 (h2.cls hw') (h3.trans (hw'.evo M'))
        | some pl =>
          have hw' : planW E ops pl s.see { s.see with B := fun _ => none } (fun u => K .normal (s.after u ops)) := by simpa only [codeW, hpn, hpl] using hw
          rw [hpn, hpl] at hok2
          simp only [Bool.and_eq_true, decide_eq_true_eq] at hok2
          obtain ⟨⟨h1, h2⟩, h3⟩ := hok2
          have key : (Code.region id ops true).wp P (fun e a' w' => e = .normal ∧ Q .normal a' w') a W := by
            refine wp_region_held (S := Cls { heap := W.heap, tape := W.tape, drawn := W.drawn + 1, os := W.os, output := W.output }) env.mixed ?_
            refine plan_run (M := M) (a0 := a) env hok1 h1 (fun c a' w' hc => by cases hc.1) (fun u s1 a' w' Ms hu hh => ⟨rfl, ?_⟩) pl _ _ s.see { s.see with B := fun _ => none } a _ M.new h3 h2 ⟨see_St h hd, new_St h hd, Evo.refl _ _, fun _ _ => rfl⟩ hw'
            have hcl := hh.cls
            have hcw : Cls W w' := hd.trans ⟨hcl.os, hcl.tape, hcl.output, hcl.size, hcl.block⟩
            exact hK .normal _ a' w' M hu (after_St h hd hh) (he.trans (hcw.evo M))
          refine Code.wp_mono (fun e a' w' hq => ?_) key
          obtain ⟨rfl, hq⟩ := hq
          exact hq
  | seq x y ihx ihy =>
    intro K Q s a W M hok hK h he hw
    simp only [okC, Bool.and_eq_true] at hok
    refine wp_seq (ihx _ _ s a W M hok.1 (fun e s' a' W' M' h1 h2 h3 => ?_) h he hw)
    cases e with
    | normal => exact ihy K Q s' a' W' M' hok.2 hK h2 h3 h1
    | exit id => exact hK (.exit id) s' a' W' M' h1 h2 h3
    | ret => exact hK .ret s' a' W' M' h1 h2 h3
  | cond c x y ihx ihy =>
    intro K Q s a W M hok hK h he hw
    simp only [okC, Bool.and_eq_true] at hok
    simp only [codeW] at hw
    split at hw
    · rename_i v hv
      have hc : a.eval c = .bool v := by
        have := opnd_sound h hok.1.1 hw.1
        rw [hv] at this
        exact this
      refine wp_cond hc ?_
      cases v with
      | true => exact ihx K Q s a W M hok.1.2 hK h he (by simpa using hw.2)
      | false => exact ihy K Q s a W M hok.2 hK h he (by simpa using hw.2)
    · rename_i hv
      have hc : ∃ b, a.eval c = .bool b := by
        have := opnd_sound h hok.1.1 hw.1
        rw [hv] at this
        exact this
      obtain ⟨b, hc⟩ := hc
      refine wp_cond hc ?_
      cases b with
      | true => exact ihx K Q s a W M hok.1.2 hK h he hw.2.1
      | false => exact ihy K Q s a W M hok.2 hK h he hw.2.2
    · exact hw.elim
  | block id x ih =>
    intro K Q s a W M hok hK h he hw
    refine wp_block (ih _ _ s a W M hok (fun e s' a' W' M' h1 h2 h3 => ?_) h he hw)
    cases e with
    | normal => exact hK .normal s' a' W' M' h1 h2 h3
    | exit id' =>
      simp only [toExit, Exit.inBlock]
      by_cases e : id' = id
      · subst e
        simp only [if_true] at h1 ⊢
        exact hK .normal s' a' W' M' h1 h2 h3
      · simp only [e, if_false] at h1 ⊢
        exact hK (.exit id') s' a' W' M' h1 h2 h3
    | ret => exact hK .ret s' a' W' M' h1 h2 h3
  | loop x ih =>
    intro K Q s a W M hok hK h he hw
    refine wp_loop_go ?_
    refine hw (fun s => ∀ a W M, St n M W s a → Evo M0 W0 M W → LoopGo P x Q a W) (fun s' hs' a W M h he => ?_) a W M h he
    refine loopGo_step (ih _ _ s' a W M hok (fun e s'' a' W' M' h1 h2 h3 => ?_) h he hs')
    cases e with
    | normal => exact h1 a' W' M' h2 h3
    | exit id => exact hK (.exit id) s'' a' W' M' h1 h2 h3
    | ret => exact hK .ret s'' a' W' M' h1 h2 h3
  | exit id => intro K Q s a W M hok hK h he hw; exact wp_exit (hK (.exit id) s a W M hw h he)
  | ret => intro K Q s a W M hok hK h he hw; exact wp_ret (hK .ret s a W M hw h he)
  | _ => intro K Q s a W M hok hK h he hw; exact hw.elim
end
end Go.TM
end
section
namespace Go.TM
open Go
def okRes (n : Nat) : ResultVar → Bool
  | .tmp t => decide (t < n)
  | .cell a _ => decide (a < n)
section
variable {P : Program} {E : Env} {n : Nat} {M : Mem} {W : World} {s : S} {a : Act}
def resF (tmps : Array Value) : ResultVar → Sem Value
  | .tmp t => pure (tmps.getD t Go.undef)
  | .cell x t => do loadVar t (← asAddr (tmps.getD x Go.undef))
theorem results_eq (fn : Func) (tmps : Array Value) : results fn tmps = (do
    let vs ← fn.results.mapM (resF tmps)
    pure (if h : vs.size = 1 then vs[0] else .tuple vs)) := by
  unfold results
  congr 2
theorem res_one (sta : StaOK P E) (h : St n M W s a) (r : ResultVar) (hok : okRes n r = true) (hn : resN s r) (hc : (resR E s r).c) :
    ∃ val, ((resF a.tmps r).run P W = .ok val W) ∧ SR2 M W (resR E s r).v val := by
  cases r with
  | tmp t => exact ⟨_, rfl, opnd_sound (x := .tmp t) h (by simpa [okOp, okRes] using hok) hn⟩
  | cell x t =>
    have hx : SR2 M W (st (s.e x)) (a.tmps.getD x Go.undef) := opnd_sound (x := .tmp x) h (by simpa [okOp, okRes] using hok) hn
    obtain ⟨-, -, val, h1, h2⟩ := load_pure sta h t hx hc
    refine ⟨val, ?_, h2⟩
    have h3 := h1 W (RowKit.Below.refl _ _)
    simp only [Instr.loadAt] at h3
    have : ∃ ad, a.tmps.getD x Go.undef = .pointer (some ad) := by
      simp only [resR] at hc
      generalize st (s.e x) = y at *
      unfold loadR at hc
      split at hc
      · obtain ⟨b, o, c, sz, -, -, -, -, e⟩ := hx
        exact ⟨_, e⟩
      · obtain ⟨-, b, o, m, c, -, e⟩ := hx
        exact ⟨_, e⟩
      · obtain ⟨-, b, o, m, c, -, e⟩ := hx
        exact ⟨_, e⟩
      · exact ⟨_, hx.2⟩
      · exact hc.elim
    obtain ⟨ad, e⟩ := this
    simp only [resF]
    rw [e] at h3 ⊢
    exact h3
theorem res_list (f : ResultVar → Sem Value) : ∀ (rs : List ResultVar) (g : ResultVar → R), (∀ r ∈ rs, ∃ val, (f r).run P W = .ok val W ∧ SR2 M W (g r).v val) →
    ∃ vals, (rs.mapM f).run P W = .ok vals W ∧ All2 (SR2 M W) (rs.map fun r => (g r).v) vals
  | [], _, _ => ⟨[], rfl, trivial⟩
  | r :: rs, g, h => by
    obtain ⟨val, h1, h2⟩ := h r (by simp)
    obtain ⟨vals, h3, h4⟩ := res_list f rs g fun r hr => h r (by simp [hr])
    refine ⟨val :: vals, ?_, h2, h4⟩
    rw [List.mapM_cons, Sem.run_bind, h1]
    simp only [Result.andThen]
    rw [Sem.run_bind, h3]
    rfl
theorem res_sound (sta : StaOK P E) (h : St n M W s a) {fn : Func} (hres : fn.results.toList.all (okRes n) = true) (hc : ∀ r ∈ fn.results.toList, resN s r ∧ (resR E s r).c ∧ isTup (resR E s r).v = false) :
    ∃ v, (results fn a.tmps).run P W = .ok v W ∧ SR2 M W (resOf E fn s) v := by
  obtain ⟨vals, h1, h2⟩ := res_list (P := P) (M := M) (W := W) (resF a.tmps) fn.results.toList (resR E s) fun r hr =>
    res_one sta h r (List.all_eq_true.1 hres r hr) (hc r hr).1 (hc r hr).2.1
  have h3 : (fn.results.mapM (resF a.tmps)).run P W = .ok vals.toArray W := by
    rw [Array.mapM_eq_mapM_toList, Sem.run_map, h1]
    rfl
  refine ⟨if h : vals.toArray.size = 1 then vals.toArray[0] else .tuple vals.toArray, ?_, ?_⟩
  · rw [results_eq, Sem.run_bind, h3]
    rfl
  · unfold resOf
    generalize hl : fn.results.toList = rl at *
    cases rl with
    | nil =>
      cases vals with
      | nil => exact ⟨[], rfl, trivial⟩
      | cons => exact h2.elim
    | cons r rs =>
      cases vals with
      | nil => exact h2.elim
      | cons v vs =>
        cases rs with
        | nil =>
          cases vs with
          | nil => exact h2.1
          | cons => exact h2.2.elim
        | cons r' rs =>
          cases vs with
          | nil => exact h2.2.elim
          | cons v' vs =>
            refine ⟨v :: v' :: vs, by simp, ?_⟩
            refine All2.of_get (by have := h2.length; simpa using this) fun i x y hx hy => ?_
            have hx' : ((r :: r' :: rs).map fun r => (resR E s r).v)[i]? = some x := by
              rw [show ((r :: r' :: rs).map fun r => (resR E s r).v) = ((r :: r' :: rs).map (resR E s)).map (·.v) by simp]
              exact hx
            have hx2 := hx'
            rw [List.getElem?_map, Option.map_eq_some_iff] at hx2
            obtain ⟨r0, hr0, rfl⟩ := hx2
            have h4 := h2.get i (resR E s r0).v hx'
            obtain ⟨y', h5, h6⟩ := h4
            rw [hy] at h5
            cases h5
            exact SR1_of_2 h6 (hc r0 (List.mem_of_getElem? hr0)).2.2
theorem start_e (args cs : List V) (x : Nat) : (start args cs).e x = (adCs args S.zero).1.getD x (.tup []) := rfl
theorem start_St {M : Mem} {args cs : List V} {vs : List Value} (hm : MemOK M W (start args cs)) (ha : All2 (SR1 M W) (adCs args S.zero).1 vs) {k : Nat} (hk : vs.length ≤ k) :
    St k M W (start args cs) { tmps := vs.toArray ++ Array.replicate (k - vs.toArray.size) Go.undef, defers := [] } where
  size := by simp; omega
  defers := rfl
  slot x hx := by
    rw [start_e]
    generalize (adCs args S.zero).1 = as at ha
    by_cases hlt : x < as.length
    · obtain ⟨v, hv, hr⟩ := ha.get x as[x] (List.getElem?_eq_getElem hlt)
      have hlt' : x < vs.length := by rw [← ha.length]; exact hlt
      have e1 : as.getD x (.tup []) = as[x] := by simp [List.getD, List.getElem?_eq_getElem hlt]
      have e2 : (vs.toArray ++ Array.replicate (k - vs.toArray.size) Go.undef).getD x Go.undef = v := by
        rw [List.getElem?_eq_getElem hlt'] at hv
        cases hv
        have hs : x < (vs.toArray ++ Array.replicate (k - vs.toArray.size) Go.undef).size := by simp; omega
        simp only [Array.getD, dif_pos hs]
        simp [Array.getElem_append, hlt']
      show SR M W (as.getD x (.tup [])) ((vs.toArray ++ Array.replicate (k - vs.toArray.size) Go.undef).getD x Go.undef)
      rw [e1, e2]
      exact SR_of_2 (SR2_of_1' hr)
    · have hge : vs.length ≤ x := by rw [← ha.length]; omega
      have e1 : as.getD x (.tup []) = .tup [] := by simp [List.getD, List.getElem?_eq_none (Nat.le_of_not_lt hlt)]
      have e2 : (vs.toArray ++ Array.replicate (k - vs.toArray.size) Go.undef).getD x Go.undef = Go.undef := by
        have hs : x < (vs.toArray ++ Array.replicate (k - vs.toArray.size) Go.undef).size := by simp; omega
        simp only [Array.getD, dif_pos hs]
        simp [Array.getElem_append, Nat.not_lt.2 hge]
      show SR M W (as.getD x (.tup [])) ((vs.toArray ++ Array.replicate (k - vs.toArray.size) Go.undef).getD x Go.undef)
      rw [e1, e2]
      exact ⟨[], rfl, trivial⟩
  mem := hm
theorem adCs_length : ∀ (xs : List V) (s : S), (adCs xs s).1.length = xs.length
  | [], s => rfl
  | x :: xs, s => by simp only [adCs, List.length_cons, adCs_length xs]
theorem fun_sound (env : EnvOK P E) {f : FuncId} {fn : Func} {c : Code} {args cs : List V} {ans : Ans} (hf : P.funcs[f]? = some fn) (hname : (fn.name == "runtime.NumGoroutine") = false)
    (hb : fn.body = some c) (hok : okC E fn.ntmps c = true) (hargs : args.length ≤ fn.ntmps) (hres : fn.results.toList.all (okRes fn.ntmps) = true) (h : FunG E fn args cs ans) : GenOK P f args cs ans where
  has := ⟨fn, hf, hname, by simp [hb]⟩
  calls M W vs hm ha := by
    refine calls_of_wp hf hb ?_
    have hw : codeW E c (start args cs) (EndsG E fn cs.length ans) := by simpa only [FunG, hb] using h
    refine code_sound env (M0 := M) (W0 := W) c (EndsG E fn cs.length ans) _ (start args cs) _ W M hok ?_ (start_St hm ha (by rw [← ha.length, adCs_length]; exact hargs)) (Evo.refl _ _) hw
    intro x s' a' W' M' hx hst hev
    have key : ((EndsC E fn s' ∧ (resToks s' (resOf E fn s') ++ liveOuts s' 0 ans.outs ++ (List.range cs.length).flatMap s'.boxToks).Nodup ∧ (resBoxes (resOf E fn s')).Nodup ∧
      (ans.sh = false → noL ans.r = true ∧ noLs ans.outs = true) ∧ ((List.range cs.length).all fun i => (s'.B i).isSome) = true) ∧ outsOk s' 0 ans.outs ∧ boxOuts s' cs.length = ans.boxes ∧ closeR s' cs.length (resOf E fn s') = ans.r) →
        a'.defers = [] ∧ ∃ v, (results fn a'.tmps).run P W' = .ok v W' ∧ ∃ v_1 M'' s'' sv, Ending.returned v = .returned v_1 ∧ Post cs.length ans M W M'' W' s'' sv v_1 := by
      rintro ⟨⟨hc, hnd, hbn, hsh, hB⟩, houts, hboxes, hr⟩
      obtain ⟨v, hv1, hv2⟩ := res_sound env.toStaOK hst hres hc
      exact ⟨hst.defers, v, hv1, v, M', s', _, rfl, ⟨hv2, hst.mem, hev, hnd, hbn, hsh, hB, houts, hboxes, hr⟩⟩
    cases x with
    | normal => exact key hx
    | ret => exact key hx
    | exit id => exact hx.elim
theorem fun_soundW (env : EnvOK P E) {f : FuncId} {fn : Func} {c : Code} {args : List V} {sh : Bool} {r : V} (hf : P.funcs[f]? = some fn) (hname : (fn.name == "runtime.NumGoroutine") = false)
    (hb : fn.body = some c) (hok : okC E fn.ntmps c = true) (hargs : args.length ≤ fn.ntmps) (hres : fn.results.toList.all (okRes fn.ntmps) = true) (h : FunW E fn args sh r) : FunOK P f args sh r :=
  fun_sound env hf hname hb hok hargs hres h
end
end Go.TM
end
