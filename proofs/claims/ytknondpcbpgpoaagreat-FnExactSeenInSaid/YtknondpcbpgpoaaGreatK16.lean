/- A part of the proof: G9, GL, HG, D9, IE, IF, IG, IH. -/
import Derived.Test.YtknondpcbpgpoaaGreatK15
set_option linter.unusedVariables false
set_option linter.unusedSimpArgs false
section
set_option linter.unusedVariables false
namespace Go.TM
open Go
/-! ### a box that is read alone, told as an address in a list -/
def pureL : V → Bool
  | .int _ _ | .bool _ | .str _ | .raw _ | .nilp | .nili => true
  | .inl _ xs => noLs xs
  | _ => false
def pureR : V → Bool
  | .agg xs => xs.all pureL
  | l => pureL l
structure BoxV (x : V) : Prop where
  fr : (leaves x).all frL = true
  ad : ∀ s, adC x s = (x, s)
  tk : toks1 x = []
  ct : ∀ s, onL1 (contL s) x = x
theorem frL_FR2 {M : Mem} {W : World} {l : V} {v : Value} (h : frL l = true) (hs : SRL M W l v) : FR W M.F (vw l) v := by
  cases l with
  | int k n => rw [show v = .int k n from hs]; exact .int k n
  | bool b => rw [show v = .bool b from hs]; exact .bool b
  | str s => rw [show v = .string s from hs]; exact .str s
  | raw hd => rw [show v = hd.val from hs]; exact .raw hd
  | lst xs => exact hs
  | _ => simp [frL] at h
theorem frL_SRL2 {M : Mem} {W : World} {l : V} {v : Value} (h : frL l = true) (hs : FR W M.F (vw l) v) : SRL M W l v := by
  cases l with
  | int k n => cases hs; rfl
  | bool b => cases hs; rfl
  | str s => cases hs; rfl
  | raw h => exact hs.rawv rfl
  | lst xs => exact hs
  | _ => simp [frL] at h
theorem pure_close {s : S} {a : V} (h : pureL (closeL s a) = true) : (∃ t z xs, a = .own t ∧ s.R t = some ⟨z, xs, true⟩ ∧ noLs xs = true) ∨ (∃ z xs, a = .inl z xs) ∨ (leaves a = [a] ∧ ∀ s', closeL s' a = a) ∧ pureL a = true := by
  cases a with
  | own t =>
    left
    simp only [closeL] at h
    cases hR : s.R t with
    | none => simp [hR, pureL] at h
    | some r =>
      obtain ⟨z, xs, w⟩ := r
      cases w with
      | true => exact ⟨t, z, xs, rfl, hR, by simpa [hR, pureL] using h⟩
      | false => simp [hR, pureL] at h
  | inl z xs => exact .inr (.inl ⟨z, xs, rfl⟩)
  | fn f cs => cases cs <;> simp [closeL, pureL] at h
  | lst xs => simp [closeL, pureL] at h
  | int k n => exact .inr (.inr ⟨⟨rfl, fun _ => rfl⟩, rfl⟩)
  | bool b => exact .inr (.inr ⟨⟨rfl, fun _ => rfl⟩, rfl⟩)
  | str b => exact .inr (.inr ⟨⟨rfl, fun _ => rfl⟩, rfl⟩)
  | raw b => exact .inr (.inr ⟨⟨rfl, fun _ => rfl⟩, rfl⟩)
  | nilp => exact .inr (.inr ⟨⟨rfl, fun _ => rfl⟩, rfl⟩)
  | nili => exact .inr (.inr ⟨⟨rfl, fun _ => rfl⟩, rfl⟩)
  | _ => simp [closeL, pureL] at h
def Mem.shut (M : Mem) : Mem := { M with F := fun b => M.F b ∨ b = M.β 0, ω := fun _ => none, nt := 0, nb := 0 }
open Classical in
noncomputable def Mem.open1 (M M' : Mem) : Mem :=
  { M' with F := fun b => M'.F b ∧ b ≠ M.β 0, β := M.β, nb := 1,
            ω := fun b => if b = M.β 0 then some (.box 0) else match M'.ω b with | some (.tok t) => some (.tok t) | _ => none }
def S.open1 (s : S) (x : V) : S :=
  { e := fun _ => .bad, B := fun b => if b = 0 then some x else none, nt := s.nt, nb := 1,
    R := fun t => match s.R t with | some ⟨z, xs, true⟩ => if noLs xs = true then some ⟨z, xs, true⟩ else none | _ => none }
theorem open1_R {s : S} {x : V} {t z : Nat} {xs : List V} (h : s.R t = some ⟨z, xs, true⟩) (hn : noLs xs = true) : (s.open1 x).R t = some ⟨z, xs, true⟩ := by
  simp [S.open1, h, hn]
theorem open1_inv {s : S} {x : V} {t : Nat} {r : Rw} (h : (s.open1 x).R t = some r) : s.R t = some r ∧ r.wr = true ∧ noLs r.xs = true := by
  simp only [S.open1] at h
  split at h
  · rename_i z xs hR
    split at h
    · rename_i hn
      cases h
      exact ⟨hR, rfl, hn⟩
    · cases h
  · cases h
theorem leaf1 {x l : V} {j i : Nat} (h : leafAt [x] j i = some l) : j = 0 ∧ (leaves x)[i]? = some l := by
  unfold leafAt at h
  cases j with
  | zero => exact ⟨rfl, by simpa using h⟩
  | succ j => simp at h
theorem All2.get' {α β : Type} {R : α → β → Prop} {zs : List α} {bs : List β} (h : All2 R zs bs) {i : Nat} {a : α} (ha : zs[i]? = some a) : ∃ b, bs[i]? = some b ∧ R a b := h.get i a ha
/-- The box, told as a list of one that nobody writes. -/
theorem shut_lad {M : Mem} {W : World} {x : V} (hx : BoxV x) (hM : MemOK M W (start [.ptr 0 0] [x])) : MemOK M.shut W (start [.ladr [x] 0 0] []) ∧ SR1 M.shut W (.ladr [x] 0 0) (.pointer (some ⟨M.β 0, 0, none⟩)) ∧ M.nb = 1 ∧ M.nt = 0 ∧
    ∃ (cs : Array Value) (ty : TypeId), W.heap[M.β 0]? = some (.cells cs ty (0, 0)) ∧ M.ω (M.β 0) = some (.box 0) ∧ All2 (SRL M W) (leaves x) cs.toList ∧ M.β 0 < W.heap.size := by
  have hB : (start [.ptr 0 0] [x]).B 0 = some x := by
    have e : (start [.ptr 0 0] [x]).B 0 = some (adC x S.zero).1 := rfl
    rw [e, hx.ad]
  have hnb : M.nb = 1 := hM.nb
  have hnt : M.nt = 0 := by
    rw [hM.nt]
    have e : (start [.ptr 0 0] [x]).nt = (adC x S.zero).2.nt := rfl
    rw [e, hx.ad]
    rfl
  obtain ⟨h0, cs, ty, h1, h2, h3⟩ := hM.box 0 x hB
  have hlt : M.β 0 < W.heap.size := (Array.getElem?_eq_some_iff.1 h1).1
  refine ⟨⟨rfl, rfl, fun b c hb => (by simp [start, adCs] at hb), fun t r hr => (by simp [start, adCs, adC, adL, S.zero] at hr), fun b hf => ⟨rfl, ?_⟩, fun b l hl => (by cases hl), fun b l hl => (by cases hl), fun b l hl => (by cases hl)⟩, ?_, hnb, hnt, cs, ty, h1, h2, h3, hlt⟩
  · rcases hf with hf | hf
    · exact (hM.frz b hf).2
    · rw [hf]; exact hlt
  · have hleaf : ∀ j i l, leafAt [x] j i = some l → ∃ u, W.cell? ⟨M.β 0, 0 + j * (leaves x).length + i, none⟩ = some u ∧ FR W M.shut.F (vw l) u := by
      intro j i l hl
      obtain ⟨rfl, hl⟩ := leaf1 hl
      obtain ⟨u, hu, hr⟩ := h3.get' hl
      refine ⟨u, ?_, ?_⟩
      · rw [cell_of h1]
        simpa using hu
      · exact (frL_FR2 (List.all_eq_true.1 hx.fr l (List.mem_of_getElem? hl)) hr).mono (fun _ _ => rfl) fun b hb => .inl hb
    have hlf : FR W M.shut.F (.lst [x]) (.slice (some ⟨M.β 0, 0, none⟩) [x].length 1) := by
      refine .lst [x] (M.β 0) 0 1 (leaves x).length (fun j i => (W.cell? ⟨M.β 0, 0 + j * (leaves x).length + i, none⟩).getD undef) (.inr rfl) (Nat.le_refl _) (show 1 ≤ maxLen by decide) (fun e he => by rw [List.mem_singleton.1 he]) (fun j i l hl => ?_) (fun j i l hl => ?_)
      · obtain ⟨u, hu, -⟩ := hleaf j i l hl
        simp only [hu, Option.getD_some]
      · obtain ⟨u, hu, hr⟩ := hleaf j i l hl
        simp only [hu, Option.getD_some]
        exact hr
    exact ⟨M.β 0, 0, 1, (leaves x).length, hlf, fun e he => by rw [List.mem_singleton.1 he], hleaf, by simp, by simp⟩
theorem open1_mem {M M' : Mem} {W W' : World} {x : V} {s' : S} (hx : BoxV x) (hM : MemOK M W (start [.ptr 0 0] [x])) (hm : MemOK M' W' s') (he : Evo M.shut W M' W') : MemOK (M.open1 M') W' (s'.open1 x) ∧ Evo M W (M.open1 M') W' := by
  obtain ⟨-, -, hnb, hnt, cs, ty, h1, h2, h3, hlt⟩ := shut_lad hx hM
  have hF0 : M'.F (M.β 0) := he.frz0 _ (.inr rfl)
  have hω0 : M'.ω (M.β 0) = none := (hm.frz _ hF0).1
  have hne : ∀ b, M.F b → b ≠ M.β 0 := fun b hb e => by
    have := (hM.frz b hb).1
    rw [e, h2] at this
    cases this
  have hF : ∀ b, M.F b → (M.open1 M').F b := fun b hb => ⟨he.frz0 _ (.inl hb), hne b hb⟩
  have hW : ∀ b, b < W.heap.size → W'.heap[b]? = W.heap[b]? := fun b hb => he.old b hb rfl
  have htok : ∀ b t, M'.ω b = some (.tok t) → (M.open1 M').ω b = some (.tok t) := fun b t hb => by
    simp only [Mem.open1]
    rw [if_neg (fun e => by rw [e, hω0] at hb; cases hb), hb]
  have hinv : ∀ b l, (M.open1 M').ω b = some l → (b = M.β 0 ∧ l = .box 0) ∨ (b ≠ M.β 0 ∧ ∃ t, l = .tok t ∧ M'.ω b = some (.tok t)) := fun b l hl => by
    simp only [Mem.open1] at hl
    split at hl
    · rename_i e
      cases hl
      exact .inl ⟨e, rfl⟩
    · rename_i e
      split at hl
      · rename_i t ht
        cases hl
        exact .inr ⟨e, t, rfl, ht⟩
      · cases hl
  refine ⟨?_, ?_⟩
  · exact {
      nt := hm.nt
      nb := rfl
      box := fun b c hb => by
        simp only [S.open1] at hb
        split at hb
        · rename_i e
          subst e
          cases hb
          refine ⟨Nat.zero_lt_one, cs, ty, (hW _ hlt).trans h1, if_pos rfl, h3.imp_mem fun l v hl hv => ?_⟩
          have hf := List.all_eq_true.1 hx.fr l hl
          exact frL_SRL2 hf ((frL_FR2 hf hv).mono (fun b hb => hW b (hM.frz b hb).2) hF)
        · cases hb
      row := fun t r hr => by
        obtain ⟨k1, k2, k3⟩ := open1_inv hr
        obtain ⟨h5, h6⟩ := hm.row t r k1
        refine ⟨h5, ?_⟩
        rcases h6 with ⟨hw, B, g1, g2, g3⟩ | ⟨hw, -⟩
        · exact .inl ⟨hw, B, g1.drop k3, fun b hb => htok b t (g2 b hb), g3⟩
        · rw [k2] at hw; cases hw
      frz := fun b hb => by
        obtain ⟨k1, k2⟩ := hb
        obtain ⟨k3, k4⟩ := hm.frz b k1
        refine ⟨?_, k4⟩
        simp only [Mem.open1]
        rw [if_neg k2, k3]
      lt := fun b l hl => by
        rcases hinv b l hl with ⟨rfl, -⟩ | ⟨-, t, -, ht⟩
        · exact Nat.lt_of_lt_of_le hlt he.size
        · exact hm.lt b _ ht
      tok := fun b t hl => by
        rcases hinv b _ hl with ⟨-, h⟩ | ⟨-, t', h, ht⟩
        · cases h
        · cases h; exact hm.tok b _ ht
      bx := fun b k hl => by
        rcases hinv b _ hl with ⟨-, h⟩ | ⟨-, t', h, ht⟩
        · cases h; exact Nat.zero_lt_one
        · cases h }
  · exact {
      os := he.os
      tape := he.tape
      output := he.output
      size := he.size
      old := fun b hb _ => hW b hb
      lab := fun b l hl => by
        rcases hinv b l hl with ⟨rfl, -⟩ | ⟨-, t, -, ht⟩
        · exact .inl (by rw [h2]; simp)
        · rcases he.lab b _ ht with h | h
          · exact absurd rfl h
          · exact .inr h
      frz := fun b hb => by
        rcases he.frz b hb.1 with h | h | h
        · rcases h with h | h
          · exact .inl h
          · exact absurd h hb.2
        · exact absurd rfl h
        · exact .inr (.inr h)
      frz0 := hF
      nt := by rw [hnt]; exact Nat.zero_le _
      nb := by rw [hnb]; exact Nat.le_refl _
      ρ := fun t ht => by rw [hnt] at ht; exact absurd ht (Nat.not_lt_zero _)
      β := fun _ _ => rfl }
theorem pure_SRL {M M' : Mem} {W' : World} {s' : S} {a : V} {v : Value} (h : pureL (closeL s' a) = true) (hs : SRL M' W' a v) : SRL (M.open1 M') W' a v := by
  rcases pure_close h with ⟨t, z, xs, rfl, -, -⟩ | ⟨z, xs, rfl⟩ | ⟨-, hp⟩
  · exact hs
  · exact hs
  · cases a <;> first | exact hs | simp [pureL] at hp
theorem pure_eq {s' : S} {x a : V} (h : pureL (closeL s' a) = true) : closeL (s'.open1 x) a = closeL s' a := by
  rcases pure_close h with ⟨t, z, xs, rfl, hR, hn⟩ | ⟨z, xs, rfl⟩ | ⟨⟨-, hc⟩, -⟩
  · simp only [closeL, open1_R hR hn, hR]
  · rfl
  · rw [hc, hc]
theorem close_pure {s' : S} {sv r : V} (h : closeR s' 0 sv = r) (hp : pureR r = true) :
    (∃ xs, sv = .agg xs ∧ r = .agg (xs.map (closeL s')) ∧ ∀ a ∈ xs, pureL (closeL s' a) = true) ∨ ((∀ xs, sv ≠ .agg xs) ∧ r = closeL s' sv ∧ pureL (closeL s' sv) = true) := by
  subst h
  cases sv with
  | agg xs =>
    refine .inl ⟨xs, rfl, rfl, fun a ha => ?_⟩
    have hp' : (xs.map (closeL s')).all pureL = true := hp
    exact List.all_eq_true.1 hp' _ (List.mem_map.2 ⟨a, ha, rfl⟩)
  | tup xs => simp [closeR, pureR, pureL] at hp
  | ptr b o =>
    exfalso
    cases o with
    | zero =>
      simp only [closeR, closeB, Nat.zero_le, if_true] at hp
      split at hp <;> simp [pureR, pureL] at hp
    | succ o => simp [closeR, closeB, onL1, closeL, pureR, pureL] at hp
  | own t =>
    refine .inr ⟨fun xs e => (by cases e), rfl, ?_⟩
    simp only [closeR, closeB, onL1] at hp
    cases hR : s'.R t with
    | none => simp [closeL, hR, pureR, pureL] at hp
    | some w =>
      obtain ⟨z, ys, wr⟩ := w
      cases wr <;> simpa [closeL, hR, pureR] using hp
  | fn f cs => cases cs <;> simp [closeR, closeB, onL1, closeL, pureR, pureL] at hp
  | _ =>
    first
      | exact .inr ⟨fun xs e => (by cases e), rfl, hp⟩
      | simp [closeR, closeB, onL1, closeL, pureR, pureL] at hp
theorem nodup_filter2 {α : Type} {l : List α} {p q : α → Bool} (h : (l.filter p).Nodup) (hq : ∀ a, q a = true → p a = true) : (l.filter q).Nodup := by
  have e : l.filter q = (l.filter p).filter q := by
    rw [List.filter_filter]
    apply List.filter_congr
    intro a ha
    cases h1 : q a with
    | false => simp
    | true => simp [hq a h1]
  rw [e]
  exact h.sublist List.filter_sublist
theorem open1_wrT {s' : S} {x : V} (t : Nat) (h : (s'.open1 x).wrT t = true) : s'.wrT t = true := by
  unfold S.wrT at *
  cases hR : (s'.open1 x).R t with
  | none => simp [hR] at h
  | some r =>
    obtain ⟨k1, k2, -⟩ := open1_inv hR
    rw [k1]
    exact k2
theorem resToks_ne {s : S} {sv : V} (h1 : ∀ xs, sv ≠ .tup xs) (h2 : ∀ b o, sv ≠ .ptr b o) : resToks s sv = (toks1 sv).filter s.wrT := by
  cases sv <;> first | rfl | exact absurd rfl (h1 _) | exact absurd rfl (h2 _ _)
/-- A box that is read alone. -/
theorem GenOK.of_lad {P : Program} {f : FuncId} {x r : V} (hx : BoxV x) (hf : FunOK P f [.ladr [x] 0 0] false r) (hp : pureR r = true) : GenOK P f [.ptr 0 0] [x] ⟨false, r, [], [x]⟩ := by
  refine ⟨hf.has, ?_⟩
  intro M W vs hM hv
  obtain ⟨h1, h2, hnb, hnt, cs, ty, -⟩ := shut_lad hx hM
  have hv' : All2 (SR1 M W) [.ptr 0 0] vs := hv
  have evs : vs = [.pointer (some ⟨M.β 0, 0, none⟩)] := by
    cases vs with
    | nil => exact hv'.elim
    | cons v vs =>
      cases vs with
      | nil =>
        obtain ⟨-, e⟩ := hv'.1
        rw [e]
      | cons _ _ => exact hv'.2.elim
  subst evs
  refine Calls.mono (hf.calls M.shut W _ h1 ⟨h2, trivial⟩) ?_
  rintro e W' ⟨v, M', s', sv, rfl, hpo⟩
  obtain ⟨hm, he⟩ := open1_mem hx hM hpo.mem hpo.evo
  have hnl := hpo.sh rfl
  have hbt : (List.range 1).flatMap (s'.open1 x).boxToks = [] := by
    have e : (s'.open1 x).boxToks 0 = (toks1 x).filter (s'.open1 x).wrT := rfl
    have e2 : (List.range 1).flatMap (s'.open1 x).boxToks = (s'.open1 x).boxToks 0 ++ [] := rfl
    rw [e2, e, hx.tk]
    rfl
  have hbx : boxOuts (s'.open1 x) 1 = [x] := by
    have e : (s'.open1 x).cont 0 = onL1 (contL (s'.open1 x)) x := rfl
    simp only [boxOuts, show List.range 1 = [0] from rfl, List.map_cons, List.map_nil, e, hx.ct]
  have hres0 : closeR s' 0 sv = r := hpo.res
  have hres := close_pure hres0 hp
  have hnd := hpo.nodup
  simp only [liveOuts, List.append_nil, List.length_nil, List.range_zero, List.flatMap_nil] at hnd
  refine ⟨v, M.open1 M', s'.open1 x, sv, rfl, ?_⟩
  rcases hres with ⟨xs, rfl, hr, hall⟩ | ⟨hna, hr, hall⟩
  · refine ⟨?_, hm, he, ?_, hpo.bnodup, fun _ => ⟨hnl.1, rfl⟩, rfl, trivial, hbx, ?_⟩
    · obtain ⟨vs2, rfl, hv2⟩ := hpo.rel
      exact ⟨vs2, rfl, hv2.imp_mem fun a b ha hab => pure_SRL (hall a ha) hab⟩
    · simp only [liveOuts, List.append_nil]
      show (_ ++ (List.range 1).flatMap (s'.open1 x).boxToks).Nodup
      rw [hbt, List.append_nil]
      exact nodup_filter2 hnd open1_wrT
    · show V.agg (xs.map (closeL (s'.open1 x))) = r
      rw [hr]
      congr 1
      exact List.map_congr_left fun a ha => pure_eq (hall a ha)
  · have hnt : ∀ xs, sv ≠ .tup xs := by
      rintro xs rfl
      simp [closeL, pureL] at hall
    have hnp : ∀ b o, sv ≠ .ptr b o := by
      rintro b o rfl
      simp [closeL, pureL] at hall
    refine ⟨?_, hm, he, ?_, hpo.bnodup, fun _ => ⟨hnl.1, rfl⟩, rfl, trivial, hbx, ?_⟩
    · have h5 := hpo.rel
      have h6 : SRL M' W' sv v := by
        cases sv <;> first | exact h5 | exact absurd rfl (hna _) | exact absurd rfl (hnt _)
      have h7 := pure_SRL (M := M) hall h6
      cases sv <;> first | exact h7 | exact absurd rfl (hna _) | exact absurd rfl (hnt _)
    · simp only [liveOuts, List.append_nil]
      show (_ ++ (List.range 1).flatMap (s'.open1 x).boxToks).Nodup
      rw [hbt, List.append_nil, resToks_ne hnt hnp]
      rw [resToks_ne hnt hnp] at hnd
      exact nodup_filter2 hnd open1_wrT
    · rw [hr, ← pure_eq (x := x) hall]
      cases sv <;> first | rfl | exact absurd rfl (hna _) | exact absurd rfl (hnt _) | exact absurd rfl (hnp _ _)
end Go.TM
end
section
set_option linter.unusedVariables false
namespace Go.TM
open Go
/-! ### an address in a list, told as one in a list of one -/
theorem LadR.ix {F : Nat → Prop} {W : World} {xs : List V} {i off : Nat} {v : Value} {x : V} (h : LadR F W xs i off v) (hx : xs[i]? = some x) : LadR F W [x] 0 off v := by
  obtain ⟨b, o, c, sz, hf, hs, hc, hi, rfl⟩ := h
  have hF : F b := by
    cases hf with
    | nil => simp at hi
    | lst _ _ _ _ _ _ hF => exact hF
  have hlv : (leaves x).length = sz := hs x (List.mem_of_getElem? hx)
  have hleaf : ∀ j k l, leafAt [x] j k = some l → ∃ u, W.cell? ⟨b, o + i * sz + j * sz + k, none⟩ = some u ∧ FR W F (vw l) u := by
    intro j k l hl
    obtain ⟨rfl, hl⟩ := leaf1 hl
    have h2 : leafAt xs i k = some l := by
      unfold leafAt
      rw [hx]
      exact hl
    obtain ⟨u, hu, hr⟩ := hc i k l h2
    exact ⟨u, by simpa using hu, hr⟩
  refine ⟨b, o + i * sz, 1, sz, ?_, fun e he => by rw [List.mem_singleton.1 he]; exact hlv, hleaf, by simp, by simp⟩
  refine .lst [x] b (o + i * sz) 1 sz (fun j k => (W.cell? ⟨b, o + i * sz + j * sz + k, none⟩).getD undef) hF (Nat.le_refl _) (show 1 ≤ maxLen by decide) (fun e he => by rw [List.mem_singleton.1 he]; exact hlv) (fun j k l hl => ?_) (fun j k l hl => ?_)
  · obtain ⟨u, hu, -⟩ := hleaf j k l hl
    simp only [hu, Option.getD_some]
  · obtain ⟨u, hu, hr⟩ := hleaf j k l hl
    simp only [hu, Option.getD_some]
    exact hr
theorem FunOK.ixs {P : Program} {f : FuncId} {xs ys : List V} {i off : Nat} {x r : V} {sh : Bool} (hf : FunOK P f (.ladr [x] 0 off :: ys) sh r) (hx : xs[i]? = some x) : FunOK P f (.ladr xs i off :: ys) sh r := by
  refine ⟨hf.has, ?_⟩
  intro M W vs hM ha
  have h1 : MemOK M W (start (.ladr [x] 0 off :: ys) []) := hM.slots _
  have ha' : All2 (SR1 M W) (.ladr xs i off :: (adCs ys S.zero).1) vs := ha
  cases vs with
  | nil => exact ha'.elim
  | cons v vs =>
    exact hf.calls M W _ h1 (show All2 (SR1 M W) (.ladr [x] 0 off :: (adCs ys S.zero).1) (v :: vs) from ⟨LadR.ix ha'.1 hx, ha'.2⟩)
theorem FunOK.ix {P : Program} {f : FuncId} {xs : List V} {i off : Nat} {x r : V} {sh : Bool} (hf : FunOK P f [.ladr [x] 0 off] sh r) (hx : xs[i]? = some x) : FunOK P f [.ladr xs i off] sh r := FunOK.ixs hf hx
end Go.TM
end
section
set_option maxHeartbeats 4000000
set_option maxRecDepth 10000
set_option linter.unusedSimpArgs false
set_option linter.unusedVariables false
namespace Go.TM.Tryz
open Go Go.TM Go.Proofs
theorem injS0 {β : Type} (out : Scp → β) : ∀ a b : Scp, (([.ptr 0 0], [a.v]) : List V × List V) = ([.ptr 0 0], [b.v]) → out a = out b := by
  intro a b h
  simp only [Prod.mk.injEq, List.cons.injEq, and_true, true_and] at h
  rw [Scp.v_inj h]
theorem tyEq_eq {x y : Ty} (h : tyEq x y = true) (hy : y ∈ baseTys) : x = y := by
  obtain ⟨h1, h2⟩ := tyEq_base h hy
  obtain ⟨h3, h4⟩ := base_no hy
  simp only [tyEq, Bool.and_eq_true, beq_iff_eq, decide_eq_true_eq] at h
  obtain ⟨⟨⟨⟨⟨a1, a2⟩, a3⟩, -⟩, a4⟩, a5⟩ := h
  cases x
  cases y
  simp only at *
  subst a1 a2 a3 a4 a5 h2 h4
  rfl
theorem tysEq_eq {xs : List Ty} (h : tysEq xs baseTys = true) : xs = baseTys := by
  simp only [tysEq, Bool.and_eq_true, decide_eq_true_eq] at h
  apply List.ext_getElem? 
  intro i
  by_cases hi : i < xs.length
  · have := allI_iff.1 h.2 i _ (List.getElem?_eq_getElem hi)
    have hiy : i < baseTys.length := by omega
    simp only [tyAtEq, List.getElem?_eq_getElem hiy, Option.any_some] at this
    rw [List.getElem?_eq_getElem hi, List.getElem?_eq_getElem hiy, tyEq_eq this (List.getElem_mem hiy)]
  · rw [List.getElem?_eq_none (by omega), List.getElem?_eq_none (by omega)]
theorem scopeI_types {s : Scp} (h : scopeI s = true) : typesB s.types = true := by
  rw [← good_eq] at h
  simp only [goodS, goodTl, Bool.and_eq_true, decide_eq_true_eq, objAtS_iff] at h
  obtain ⟨⟨⟨_, b1, _, b3⟩, _⟩, ⟨⟨⟨_, d2⟩, _⟩, d4⟩, _⟩ := h
  simp only [tableI, Bool.and_eq_true] at d2
  exact d2.1
theorem scopeI_base {s : Scp} (h : scopeI s = true) : s.types.take 3 = baseTys := by
  have h1 := scopeI_types h
  simp only [typesB, Bool.and_eq_true, inB_iff] at h1
  exact tysEq_eq h1.1.2
theorem scopeI_ty {s : Scp} (h : scopeI s = true) : Go.TM.TyRef s.types := by
  have hr := scopeI_refs h
  exact ⟨fun t ht => (hr.ty.ty t ht).base, fun t ht x hx => ((hr.ty.ty t ht).fld x hx).1⟩
theorem scopeI_bok {s : Scp} (h : scopeI s = true) : BOK s.types := by
  have hr := scopeI_refs h
  exact ⟨scopeI_ty h, hr.ty.len, fun t ht => (hr.ty.ty t ht).flds, scopeI_base h⟩
theorem scopeI_ex {s : Scp} (h : scopeI s = true) : ExRef s := by
  have hr := scopeI_refs h
  have hb := scopeI_bok h
  exact ⟨hb.ty, base_len hb.hb, hb.l24, hb.f6, fun o ho => ⟨(hr.obj o ho).type, fun x hx => ((hr.obj o ho).par x hx).1.2⟩, hr.objs, fun o ho => (hr.obj o ho).pars⟩
theorem box_scp (s : Scp) : BoxV s.v := by
  refine ⟨?_, fun _ => rfl, rfl, fun _ => rfl⟩
  simp [leaves, frL]
theorem pure_scp (s : Scp) : pureR s.o = true := by
  simp [pureR, pureL, noL_str, noL_ty, noL_obj, noL_use]
theorem f67_box (s : Scp) (h : scopeI s = true) : GenOK Tryz.prog 67 [.ptr 0 0] [s.v] ⟨false, (exS s).o, [], [s.v]⟩ := by
  have h1 := f67_ok s (scopeI_ex h)
  rw [exI_eq s (scopeI_bok h) (scopeI_ex h)] at h1
  exact GenOK.of_lad (box_scp s) h1 (pure_scp _)
noncomputable def c67 := ctrG (fun s : Scp => scopeI s = true) (fun s => ([.ptr 0 0], [s.v])) (fun s => ⟨false, (exS s).o, [], [s.v]⟩)
theorem c67_eq (s : Scp) (h : scopeI s = true) : c67 [.ptr 0 0] [s.v] = some ⟨false, (exS s).o, [], [s.v]⟩ := ctrG_eq (injS0 _) s h rfl
theorem c67_ok : GOK Tryz.prog (67, [], c67) := ctrG_ok fun s h => f67_box s h
noncomputable def c61 := ctr (fun s : Scp => scopeI s = true) (fun s => [s.v]) (fun s => (false, (exS s).o))
theorem c61_eq (s : Scp) (h : scopeI s = true) : c61 [s.v] = some (false, (exS s).o) := ctr_eq (inj0 Scp.v_inj _) s h rfl
theorem c61_ok : COK Tryz.prog (61, c61) := ctr_ok fun s h => f61_ok s (scopeI_bok h) (scopeI_ex h)
def noS : Scp := ⟨⟨#[]⟩, [], [], [], []⟩
noncomputable def exR (s : Scp) : Scp := if scopeI s = true then exS s else noS
theorem f15_ok (s : Scp) (hl : s.lim) : FunOK Tryz.prog 15 [s.v] false (.tup [(exR s).o, .bool (scopeI s)]) := by
  refine fun_ok (mkE_ok zmix (cl := [(66, c66)]) (gl := [(67, [], c67)]) [] c66_ok c67_ok) Tryz.func15 (by kernel_rfl) ?_
  refine FunW_run _ _ rfl rfl ?_
  have ea := c66_eq s hl
  simp only [Scp.v] at ea
  have hnl : noL (exS s).o = true := by
    simp [noL, noLs, noL_str, noL_ty, noL_obj, noL_use]
  cases hsa : scopeI s with
  | false =>
    rw [hsa] at ea
    simp [ea, exR, hsa, noS]
  | true =>
    rw [hsa] at ea
    have ec := c67_eq s hsa
    simp only [Scp.v, Scp.o] at ec
    simp only [Scp.o] at hnl
    have e : exR s = exS s := by simp [exR, hsa]
    rw [e]
    generalize exS s = X at *
    simp [ea, ec, hnl]
theorem f13_ok (s : Scp) (hl : s.lim) : FunOK Tryz.prog 13 [s.v] false (.tup [(exR s).o, .bool (scopeI s)]) := by
  refine fun_ok (mkE_ok zmix (cl := [(60, c60), (61, c61)]) (gl := []) [] ⟨c60_ok, c61_ok⟩ trivial) Tryz.func13 (by kernel_rfl) ?_
  refine FunW_run _ _ rfl rfl ?_
  have ea := c60_eq s hl
  simp only [Scp.v] at ea
  have hnl : noL (exS s).o = true := by
    simp [noL, noLs, noL_str, noL_ty, noL_obj, noL_use]
  cases hsa : scopeI s with
  | false =>
    rw [hsa] at ea
    simp [ea, exR, hsa, noS]
  | true =>
    rw [hsa] at ea
    have ec := c61_eq s hsa
    simp only [Scp.v, Scp.o] at ec
    simp only [Scp.o] at hnl
    have e : exR s = exS s := by simp [exR, hsa]
    rw [e]
    generalize exS s = X at *
    simp [ea, ec, hnl]
end Go.TM.Tryz
end
section
set_option linter.unusedVariables false
namespace Go.TM
open Go
/-! ### lists of scopes -/
@[simp] theorem cut_scp (xs : List Scp) : (xs = [] ∨ (leaves ((Option.map Scp.v xs[0]?).getD .bad)).length = 5) = True := cut_ok (f := Scp.v) (n := 5) (fun _ => rfl) xs
@[simp] theorem norms_scp (xs : List Scp) : norms (xs.map Scp.v) = xs.map Scp.v := by rw [norms_map]; simp
@[simp] theorem norms_scpo (xs : List Scp) : norms (xs.map Scp.o) = xs.map Scp.v := by rw [norms_map]; simp
@[simp] theorem noLs_scpo (xs : List Scp) : noLs (xs.map Scp.o) = true := noLs_map _ (by simp) _
end Go.TM
end
section
set_option maxHeartbeats 8000000
set_option maxRecDepth 20000
set_option linter.unusedSimpArgs false
set_option linter.unusedVariables false
namespace Go.TM.Tryz
open Go Go.TM Go.Proofs
/-! ### a module's place by its name -/
def nameIs (n : ByteArray) (m : Scp) : Bool := decide (m.name = n)
theorem f159_ok (m : Scp) (n : ByteArray) : FunOK Tryz.prog 159 [m.v, .ladr [.str n] 0 0] false (.bool (nameIs n m)) := by
  refine fun_ok (mkE_ok zmix (cl := []) (gl := []) [] trivial trivial) Tryz.func159 (by kernel_rfl) ?_
  refine FunW_run _ _ rfl rfl ?_
  simp [nameIs]
theorem inj159 {β : Type} (out : Scp × ByteArray → β) : ∀ a b : Scp × ByteArray, [a.1.v, V.ladr [.str a.2] 0 0] = [b.1.v, .ladr [.str b.2] 0 0] → out a = out b := by
  rintro ⟨a, c⟩ ⟨b, d⟩ h
  simp only [List.cons.injEq, and_true, V.ladr.injEq, V.str.injEq] at h
  rw [Scp.v_inj h.1, h.2]
noncomputable def c159 := ctr (fun _ : Scp × ByteArray => True) (fun a => [a.1.v, .ladr [.str a.2] 0 0]) (fun a => (false, .bool (nameIs a.2 a.1)))
theorem c159_eq (m : Scp) (n : ByteArray) : c159 [m.v, .ladr [.str n] 0 0] = some (false, .bool (nameIs n m)) := ctr_eq (inj159 _) (m, n) trivial rfl
theorem c159_ok : COK Tryz.prog (159, c159) := ctr_ok fun a h => f159_ok a.1 a.2
theorem f158_ok (l : List Scp) (n : ByteArray) (hl : l.length ≤ lim) : FunOK Tryz.prog 158 [.lst (l.map Scp.v), .fn 159 [.ladr [.str n] 0 0]] false (.int .i64 (fstI (nameIs n) l)) := by
  refine fun_ok (mkE_ok zmix (cl := [(159, c159)]) (gl := []) [] c159_ok trivial) Tryz.func158 (by kernel_rfl) ?_
  refine FunW_run _ _ rfl rfl ?_
  simp only [lim] at hl
  simp
  refine lp_list l (fun i t => t.e 1 = .fn 159 [.ladr [.str n] 0 0] ∧ t.e 0 = .lst (l.map Scp.v) ∧ t.e 7 = .int .i64 l.length ∧ t.e 8 = .int .i64 i ∧ anyI (nameIs n) l i = false) ?_ ?_ ?_
  · simp
  · rintro c' L hL i t x hx hi ih ⟨h1, h7, h8, h9, hall⟩
    have hw : IntKind.i64.wrap ((i : Int) + 1) = ((i + 1 : Nat) : Int) := wrap64 (by omega) (by omega)
    have e := c159_eq x n
    simp only [Scp.v] at e h1
    simp [-getElem?_pos, List.getElem?_cons_zero, h1, h7, h8, h9, hL, hi, hx, e]
    split
    · rename_i hc
      exact (fst_yes hx hc hall).symm
    · rename_i hc
      refine ih _ ?_
      simp [h1, h7, h8, h9, hw, anyI_succ hx, hall, hc]
  · rintro c' t ⟨h1, h7, h8, h9, hall⟩
    simp [h1, h7, h8, h9, fst_no hall]
theorem inj158 {β : Type} (out : List Scp × ByteArray → β) : ∀ a b : List Scp × ByteArray, [V.lst (a.1.map Scp.v), .fn 159 [.ladr [.str a.2] 0 0]] = [V.lst (b.1.map Scp.v), .fn 159 [.ladr [.str b.2] 0 0]] → out a = out b := by
  rintro ⟨a, c⟩ ⟨b, d⟩ h
  simp only [List.cons.injEq, and_true, V.ladr.injEq, V.fn.injEq, true_and, V.lst.injEq, V.str.injEq] at h
  rw [map_inj Scp.v_inj h.1, h.2]
noncomputable def c158 := ctr (fun a : List Scp × ByteArray => a.1.length ≤ lim) (fun a => [.lst (a.1.map Scp.v), .fn 159 [.ladr [.str a.2] 0 0]]) (fun a => (false, .int .i64 (fstI (nameIs a.2) a.1)))
theorem c158_eq (l : List Scp) (n : ByteArray) (h : l.length ≤ lim) : c158 [.lst (l.map Scp.v), .fn 159 [.ladr [.str n] 0 0]] = some (false, .int .i64 (fstI (nameIs n) l)) := ctr_eq (inj158 _) (l, n) h rfl
theorem c158_ok : COK Tryz.prog (158, c158) := ctr_ok fun a h => f158_ok a.1 a.2 h
theorem injmn {β : Type} (out : List Scp × ByteArray → β) : ∀ a b : List Scp × ByteArray, [V.lst (a.1.map Scp.v), .str a.2] = [V.lst (b.1.map Scp.v), .str b.2] → out a = out b := by
  rintro ⟨a, c⟩ ⟨b, d⟩ h
  simp only [List.cons.injEq, and_true, V.lst.injEq, V.str.injEq] at h
  rw [map_inj Scp.v_inj h.1, h.2]
theorem f91_ok (l : List Scp) (n : ByteArray) (hl : l.length ≤ lim) : FunOK Tryz.prog 91 [.lst (l.map Scp.v), .str n] false (.int .i64 (fstI (nameIs n) l)) := by
  refine fun_ok (mkE_ok zmix (cl := [(158, c158)]) (gl := []) [] c158_ok trivial) Tryz.func91 (by kernel_rfl) ?_
  refine FunW_run _ _ rfl rfl ?_
  have e := c158_eq l n hl
  simp [e]
noncomputable def c91 := ctr (fun a : List Scp × ByteArray => a.1.length ≤ lim) (fun a => [.lst (a.1.map Scp.v), .str a.2]) (fun a => (false, .int .i64 (fstI (nameIs a.2) a.1)))
theorem c91_eq (l : List Scp) (n : ByteArray) (h : l.length ≤ lim) : c91 [.lst (l.map Scp.v), .str n] = some (false, .int .i64 (fstI (nameIs n) l)) := ctr_eq (injmn _) (l, n) h rfl
theorem c91_ok : COK Tryz.prog (91, c91) := ctr_ok fun a h => f91_ok a.1 a.2 h
theorem f160_ok (l : List Scp) (n : ByteArray) (hl : l.length ≤ lim) : FunOK Tryz.prog 160 [.lst (l.map Scp.v), .str n] false (.int .i64 (fstI (nameIs n) l)) := by
  refine fun_ok (mkE_ok zmix (cl := []) (gl := []) [] trivial trivial) Tryz.func160 (by kernel_rfl) ?_
  refine FunW_run _ _ rfl rfl ?_
  simp only [lim] at hl
  simp
  refine lp_list l (fun i t => t.e 1 = .str n ∧ t.e 7 = .lst (l.map Scp.v) ∧ t.e 8 = .int .i64 l.length ∧ t.e 9 = .int .i64 i ∧ anyI (nameIs n) l i = false) ?_ ?_ ?_
  · simp
  · rintro c' L hL i t x hx hi ih ⟨h1, h7, h8, h9, hall⟩
    have hw : IntKind.i64.wrap ((i : Int) + 1) = ((i + 1 : Nat) : Int) := wrap64 (by omega) (by omega)
    by_cases hc : x.name = n
    · have hc' : nameIs n x = true := by simp [nameIs, hc]
      have := fst_yes hx hc' hall
      simp [-getElem?_pos, List.getElem?_cons_zero, List.getElem?_cons_succ, h1, h7, h8, h9, hL, hi, hx, hc]
      omega
    · have hc' : nameIs n x = false := by simp [nameIs, hc]
      simp [-getElem?_pos, List.getElem?_cons_zero, List.getElem?_cons_succ, h1, h7, h8, h9, hL, hi, hx, hc]
      refine ih _ ?_
      simp [h1, h7, h8, h9, hw, anyI_succ hx, hall, hc']
  · rintro c' t ⟨h1, h7, h8, h9, hall⟩
    simp [h1, h7, h8, h9, fst_no hall]
noncomputable def c160 := ctr (fun a : List Scp × ByteArray => a.1.length ≤ lim) (fun a => [.lst (a.1.map Scp.v), .str a.2]) (fun a => (false, .int .i64 (fstI (nameIs a.2) a.1)))
theorem c160_eq (l : List Scp) (n : ByteArray) (h : l.length ≤ lim) : c160 [.lst (l.map Scp.v), .str n] = some (false, .int .i64 (fstI (nameIs n) l)) := ctr_eq (injmn _) (l, n) h rfl
theorem c160_ok : COK Tryz.prog (160, c160) := ctr_ok fun a h => f160_ok a.1 a.2 h
/-! ### what is told to others, once more -/
noncomputable def c67l := ctr (fun s : Scp => scopeI s = true) (fun s => [.ladr [s.v] 0 0]) (fun s => (false, (exS s).o))
theorem injL1 {β : Type} (out : Scp → β) : ∀ a b : Scp, [V.ladr [a.v] 0 0] = [V.ladr [b.v] 0 0] → out a = out b := by
  intro a b h
  simp only [List.cons.injEq, and_true, V.ladr.injEq] at h
  rw [Scp.v_inj h]
theorem c67l_eq (s : Scp) (h : scopeI s = true) : c67l [.ladr [s.v] 0 0] = some (false, (exS s).o) := ctr_eq (injL1 _) s h rfl
theorem c67l_ok : COK Tryz.prog (67, c67l) := ctr_ok fun s h => by
  have h1 := f67_ok s (scopeI_ex h)
  rw [exI_eq s (scopeI_bok h) (scopeI_ex h)] at h1
  exact h1
end Go.TM.Tryz
end
section
set_option maxHeartbeats 8000000
set_option maxRecDepth 20000
set_option linter.unusedSimpArgs false
set_option linter.unusedVariables false
namespace Go.TM.Tryz
open Go Go.TM Go.Proofs
theorem exS_lim {s : Scp} (h : scopeI s = true) (hl : s.lim) : (exS s).lim := by
  have hs := scopeI_ex h
  have hOl : (ordO s).length ≤ 24 := by
    have hl3 := hs.t3
    have hord0 : OrdOK s.types.length [0, 1, 2] := ⟨by decide, by simp; omega⟩
    have hok := objsW_ok (m := s.types.length + 1) (fun o n ho hm hn => tk_ok hs.ty _ o n ho hm hn) s.objects [0, 1, 2] hs.ob hord0 (by omega)
    exact Nat.le_trans hok.ok.len hs.t24
  have ho16 := hs.o16
  have htl := renTs_len s.types (ordO s) (ordO s)
  refine ⟨hl.1, ⟨by simp [exS, lim], by simp [exS]⟩, ⟨?_, fun t ht => ?_⟩, ⟨?_, fun o ho => ?_⟩, ⟨by simp [exS, lim], by simp [exS]⟩⟩
  · simp only [exS, lim]
    omega
  · have ht' : t ∈ renTs s.types (ordO s) (ordO s) := ht
    simp only [renTs, List.mem_filterMap] at ht'
    obtain ⟨n, hn, h2⟩ := ht'
    cases hln : s.types[n.toNat]? with
    | none => simp [hln] at h2
    | some ty =>
      simp only [hln, Option.map_some, Option.some.injEq] at h2
      subst h2
      obtain ⟨h1, h2, h3⟩ := hl.2.2.1.2 ty (List.mem_of_getElem? hln)
      refine ⟨⟨by simpa [renT] using h1.1, fun x hx => ?_⟩, h2, h3⟩
      simp only [renT] at hx
      obtain ⟨y, hy, rfl⟩ := List.mem_map.1 hx
      have := h1.2 y hy
      simp only [Fld.lim, renF] at this ⊢
      split
      · simp [lim, ba_nil_size]
      · exact this
  · simp only [exS, List.length_map, lim, shownO]
    have := List.length_filter_le (fun o : Obj => decide (o.mark ≠ 0)) s.objects
    omega
  · obtain ⟨x, hx, rfl⟩ := List.mem_map.1 ho
    obtain ⟨h1, h2⟩ := hl.2.2.2.1.2 x (List.mem_filter.1 hx).1
    refine ⟨h1, ⟨by simpa [renO] using h2.1, fun y hy => ?_⟩⟩
    simp only [renO] at hy
    obtain ⟨z, hz, rfl⟩ := List.mem_map.1 hy
    exact h2.2 z hz
theorem f152_ok (s : Scp) (h : scopeI s = true) (hl : s.lim) : FunOK Tryz.prog 152 [.ladr [s.v] 0 0] false (.bool (decide (exS s = s))) := by
  refine fun_ok (mkE_ok zmix (cl := [(67, c67l), (198, c198)]) (gl := []) [(1, [(0, false), (2, false), (3, false), (4, false), (1, true), (5, true), (6, false)])] ⟨c67l_ok, c198_ok⟩ trivial) Tryz.func152 (by kernel_rfl) ?_
  refine FunW_run _ _ rfl rfl ?_
  have e1 := c67l_eq s h
  have e2 := c198_eq (exS s) s (exS_lim h hl) hl
  generalize exS s = X at *
  simp only [Scp.v, Scp.o] at e1 e2
  simp [e1, e2, pureOp, S.see, seeL, S.after, flatC]
  trace_state
end Go.TM.Tryz
end
section
set_option maxHeartbeats 8000000
set_option maxRecDepth 20000
set_option linter.unusedSimpArgs false
set_option linter.unusedVariables false
namespace Go.TM.Tryz
open Go Go.TM Go.Proofs
noncomputable def modAtB (l : List Scp) (i : Nat) (m : Scp) : Bool := scopeI m && decide (exS m = m) && decide (fstI (nameIs m.name) (l.take i) < 0)
noncomputable def modsB (l : List Scp) : Bool := allI (modAtB l) l l.length && decide (l.length ≤ 8)
theorem injLx {β : Type} (out : List Scp × Nat → β) : ∀ a b : List Scp × Nat, [V.ladr (a.1.map Scp.v) a.2 0] = [V.ladr (b.1.map Scp.v) b.2 0] → out a = out b := by
  rintro ⟨a, i⟩ ⟨b, j⟩ h
  simp only [List.cons.injEq, and_true, V.ladr.injEq] at h
  rw [map_inj Scp.v_inj h.1, h.2]
theorem atV {l : List Scp} {i : Nat} {s : Scp} (h : l[i]? = some s) : (l.map Scp.v)[i]? = some s.v := by rw [List.getElem?_map, h]; rfl
noncomputable def c66x := ctr (fun a : List Scp × Nat => ∃ s, a.1[a.2]? = some s ∧ s.lim) (fun a => [.ladr (a.1.map Scp.v) a.2 0]) (fun a => (false, .bool (scopeI ((a.1[a.2]?).getD noS))))
theorem c66x_eq {l : List Scp} {i : Nat} {s : Scp} (h : l[i]? = some s) (hl : s.lim) : c66x [.ladr (l.map Scp.v) i 0] = some (false, .bool (scopeI s)) := by
  have := ctr_eq (p := fun a : List Scp × Nat => ∃ s, a.1[a.2]? = some s ∧ s.lim) (enc := fun a => [.ladr (a.1.map Scp.v) a.2 0]) (out := fun a => (false, .bool (scopeI ((a.1[a.2]?).getD noS)))) (injLx _) (l, i) ⟨s, h, hl⟩ rfl
  simp only [h, Option.getD_some] at this
  exact this
theorem c66x_ok : COK Tryz.prog (66, c66x) := ctr_ok fun a h => by
  obtain ⟨s, h1, h2⟩ := h
  simp only [h1, Option.getD_some]
  exact FunOK.ix (f66_ok s h2) (atV h1)
noncomputable def c152x := ctr (fun a : List Scp × Nat => ∃ s, a.1[a.2]? = some s ∧ s.lim ∧ scopeI s = true) (fun a => [.ladr (a.1.map Scp.v) a.2 0]) (fun a => (false, .bool (decide (exS ((a.1[a.2]?).getD noS) = (a.1[a.2]?).getD noS))))
theorem c152x_eq {l : List Scp} {i : Nat} {s : Scp} (h : l[i]? = some s) (hl : s.lim) (hs : scopeI s = true) : c152x [.ladr (l.map Scp.v) i 0] = some (false, .bool (decide (exS s = s))) := by
  have := ctr_eq (p := fun a : List Scp × Nat => ∃ s, a.1[a.2]? = some s ∧ s.lim ∧ scopeI s = true) (enc := fun a => [.ladr (a.1.map Scp.v) a.2 0]) (out := fun a => (false, .bool (decide (exS ((a.1[a.2]?).getD noS) = (a.1[a.2]?).getD noS)))) (injLx _) (l, i) ⟨s, h, hl, hs⟩ rfl
  simp only [h, Option.getD_some] at this
  exact this
theorem c152x_no {l : List Scp} {i : Nat} {s : Scp} (h : l[i]? = some s) (hs : scopeI s = false) : c152x [.ladr (l.map Scp.v) i 0] = none := by
  refine ctr_none fun a ha e => ?_
  obtain ⟨b, j⟩ := a
  obtain ⟨s', h1, h2, h3⟩ := ha
  simp only [List.cons.injEq, and_true, V.ladr.injEq] at e
  obtain ⟨e1, e2⟩ := e
  have e3 := map_inj Scp.v_inj e1
  simp only at h1
  rw [e3, e2, h] at h1
  cases h1
  rw [hs] at h3
  cases h3
theorem c152x_ok : COK Tryz.prog (152, c152x) := ctr_ok fun a h => by
  obtain ⟨s, h1, h2, h3⟩ := h
  simp only [h1, Option.getD_some]
  exact FunOK.ix (f152_ok s h3 h2) (atV h1)
theorem f95_ok (l : List Scp) (hl : limL Scp.lim l) : FunOK Tryz.prog 95 [.lst (l.map Scp.v)] false (.bool (modsB l)) := by
  refine fun_ok (mkE_ok zmix (cl := [(66, c66x), (152, c152x), (91, c91)]) (gl := []) [(4, [(0, false), (1, false), (2, false), (3, true), (4, false), (5, false), (6, false), (7, false), (8, false), (9, true), (10, false), (11, false), (12, false), (13, false), (14, false), (15, false), (16, false), (17, false), (18, false), (19, false), (20, false), (21, true), (22, false), (23, false)])] ⟨c66x_ok, c152x_ok, c91_ok⟩ trivial) Tryz.func95 (by kernel_rfl) ?_
  refine FunW_run _ _ rfl rfl ?_
  have hll := hl.1
  simp only [lim] at hll
  simp
  refine lp_list l (fun i t => t.e 0 = .lst (l.map Scp.v) ∧ t.e 5 = .int .i64 l.length ∧ t.e 6 = .int .i64 i ∧ allI (modAtB l) l i = true) ?_ ?_ ?_
  · simp
  · rintro c' L hL i t x hx hi ih ⟨h0, h5, h6, hall⟩
    have hw : IntKind.i64.wrap ((i : Int) + 1) = ((i + 1 : Nat) : Int) := wrap64 (by omega) (by omega)
    have hxl := hl.2 x (List.mem_of_getElem? hx)
    have e66 := c66x_eq hx hxl
    have e91 := c91_eq (l.take i) x.name (by simp [lim]; omega)
    rw [List.map_take] at e91
    cases hs : scopeI x with
    | false =>
      have e152 := c152x_no hx hs
      rw [hs] at e66
      have hno : modAtB l i x = false := by simp [modAtB, hs]
      have := allI_no hx hno
      simp [-getElem?_pos, List.getElem?_cons_zero, List.getElem?_cons_succ, h0, h5, h6, hL, hi, hx, e66, e152, e91, pureOp, S.see, seeL, S.after, flatC, modsB, this]
    | true =>
      have e152 := c152x_eq hx hxl hs
      rw [hs] at e66
      simp [-getElem?_pos, List.getElem?_cons_zero, List.getElem?_cons_succ, h0, h5, h6, hL, hi, hx, e66, e152, e91, pureOp, S.see, seeL, S.after, flatC]
      refine ⟨fun _ => by omega, ?_⟩
      split
      · rename_i hc
        have hno : modAtB l i x = false := by
          simp only [modAtB, hs, Bool.true_and, Bool.and_eq_false_iff, decide_eq_false_iff_not]
          rcases hc with hc | hc
          · exact .inl hc
          · exact .inr (by omega)
        have := allI_no hx hno
        simp [modsB, this]
      · rename_i hc
        have hyes : modAtB l i x = true := by
          simp only [modAtB, hs, Bool.true_and, Bool.and_eq_true, decide_eq_true_eq]
          simp only [not_or, Classical.not_not] at hc
          exact ⟨hc.1, by omega⟩
        refine ih _ ?_
        simp [h0, h5, h6, hw, allI_succ hx, hall, hyes]
  · rintro c' t ⟨h0, h5, h6, hall⟩
    simp [h0, h5, h6, modsB, hall]
    omega
end Go.TM.Tryz
end
section
set_option maxHeartbeats 8000000
set_option maxRecDepth 20000
set_option linter.unusedSimpArgs false
set_option linter.unusedVariables false
namespace Go.TM.Tryz
open Go Go.TM Go.Proofs
theorem c61_no {s : Scp} (hs : scopeI s = false) : c61 [s.v] = none := by
  refine ctr_none fun a ha e => ?_
  simp only [List.cons.injEq, and_true] at e
  rw [Scp.v_inj e, hs] at ha
  cases ha
theorem c144_no (v : V) : c144 [.bad, v] = none := by
  refine ctr_none fun a ha e => ?_
  simp only [List.cons.injEq, and_true, Scp.v] at e
  cases e.1
theorem f93_ok (l : List Scp) (hl : limL Scp.lim l) : FunOK Tryz.prog 93 [.lst (l.map Scp.v)] false (.bool (modsB l)) := by
  refine fun_ok (mkE_ok zmix (cl := [(60, c60), (61, c61), (144, c144), (160, c160)]) (gl := []) [(4, [(0, false), (1, true), (2, false), (3, false), (4, false), (6, false), (5, true), (7, true), (8, false), (9, false), (10, false), (11, false), (12, false), (13, false), (14, false), (15, false), (16, true), (17, false), (18, false)])] ⟨c60_ok, c61_ok, c144_ok, c160_ok⟩ trivial) Tryz.func93 (by kernel_rfl) ?_
  refine FunW_run _ _ rfl rfl ?_
  have hll := hl.1
  simp only [lim] at hll
  simp
  refine lp_list l (fun i t => t.e 0 = .lst (l.map Scp.v) ∧ t.e 5 = .lst (l.map Scp.v) ∧ t.e 6 = .int .i64 l.length ∧ t.e 7 = .int .i64 i ∧ allI (modAtB l) l i = true) ?_ ?_ ?_
  · simp
  · rintro c' L hL i t x hx hi ih ⟨h0, h5, h6, h7, hall⟩
    have hw : IntKind.i64.wrap ((i : Int) + 1) = ((i + 1 : Nat) : Int) := wrap64 (by omega) (by omega)
    have hxl := hl.2 x (List.mem_of_getElem? hx)
    have e60 := c60_eq x hxl
    have e160 := c160_eq (l.take i) x.name (by simp [lim]; omega)
    rw [List.map_take] at e160
    simp only [Scp.v] at e60
    cases hs : scopeI x with
    | false =>
      have e61 := c61_no hs
      simp only [Scp.v] at e61
      rw [hs] at e60
      have hno : modAtB l i x = false := by simp [modAtB, hs]
      have := allI_no hx hno
      simp [-getElem?_pos, List.getElem?_cons_zero, List.getElem?_cons_succ, h0, h5, h6, h7, hL, hi, hx, e60, e61, c144_no, e160, pureOp, S.see, seeL, S.after, flatC, modsB, this]
    | true =>
      have e61 := c61_eq x hs
      have e144 := c144_eq (exS x) x (exS_lim hs hxl) hxl
      generalize hX : exS x = X at *
      simp only [Scp.v, Scp.o] at e61 e144
      rw [hs] at e60
      simp [-getElem?_pos, List.getElem?_cons_zero, List.getElem?_cons_succ, h0, h5, h6, h7, hL, hi, hx, e60, e61, e144, e160, pureOp, S.see, seeL, S.after, flatC]
      subst hX
      refine ⟨fun _ => by omega, ?_⟩
      split
      · rename_i hc
        have hno : modAtB l i x = false := by
          simp only [modAtB, hs, Bool.true_and, Bool.and_eq_false_iff, decide_eq_false_iff_not]
          rcases hc with hc | hc
          · exact .inl hc
          · exact .inr (by omega)
        have := allI_no hx hno
        simp [modsB, this]
      · rename_i hc
        have hyes : modAtB l i x = true := by
          simp only [modAtB, hs, Bool.true_and, Bool.and_eq_true, decide_eq_true_eq]
          simp only [not_or, Classical.not_not] at hc
          exact ⟨hc.1, by omega⟩
        refine ih _ ?_
        simp [h0, h5, h6, h7, hw, allI_succ hx, hall, hyes]
  · rintro c' t ⟨h0, h5, h6, h7, hall⟩
    simp [h0, h5, h6, h7, modsB, hall]
    omega
noncomputable def c95 := ctr (fun l : List Scp => limL Scp.lim l) (fun l => [.lst (l.map Scp.v)]) (fun l => (false, .bool (modsB l)))
theorem c95_eq (l : List Scp) (h : limL Scp.lim l) : c95 [.lst (l.map Scp.v)] = some (false, .bool (modsB l)) := ctr_eq (injl Scp.v_inj _) l h rfl
theorem c95_ok : COK Tryz.prog (95, c95) := ctr_ok fun l h => f95_ok l h
noncomputable def c93 := ctr (fun l : List Scp => limL Scp.lim l) (fun l => [.lst (l.map Scp.v)]) (fun l => (false, .bool (modsB l)))
theorem c93_eq (l : List Scp) (h : limL Scp.lim l) : c93 [.lst (l.map Scp.v)] = some (false, .bool (modsB l)) := ctr_eq (injl Scp.v_inj _) l h rfl
theorem c93_ok : COK Tryz.prog (93, c93) := ctr_ok fun l h => f93_ok l h
end Go.TM.Tryz
end
