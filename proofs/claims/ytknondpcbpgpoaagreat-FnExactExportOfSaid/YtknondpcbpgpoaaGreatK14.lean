/- A part of the proof: G9, HG, D7, ZMark, ZHeld. -/
import Derived.Test.YtknondpcbpgpoaaGreatK13
set_option linter.unusedVariables false
set_option linter.unusedSimpArgs false
section
set_option linter.unusedVariables false
namespace Go.TM
open Go
/-! ### a box that is read alone, told as an address in a list -/
def pureL : V → Bool
  | .int _ _ | .bool _ | .str _ | .raw _ | .nilp | .nili => true
  | .inl _ xs => noLs xs
  | _ => false
def pureR : V → Bool
  | .agg xs => xs.all pureL
  | l => pureL l
structure BoxV (x : V) : Prop where
  fr : (leaves x).all frL = true
  ad : ∀ s, adC x s = (x, s)
  tk : toks1 x = []
  ct : ∀ s, onL1 (contL s) x = x
theorem frL_FR2 {M : Mem} {W : World} {l : V} {v : Value} (h : frL l = true) (hs : SRL M W l v) : FR W M.F (vw l) v := by
  cases l with
  | int k n => rw [show v = .int k n from hs]; exact .int k n
  | bool b => rw [show v = .bool b from hs]; exact .bool b
  | str s => rw [show v = .string s from hs]; exact .str s
  | raw hd => rw [show v = hd.val from hs]; exact .raw hd
  | lst xs => exact hs
  | _ => simp [frL] at h
theorem frL_SRL2 {M : Mem} {W : World} {l : V} {v : Value} (h : frL l = true) (hs : FR W M.F (vw l) v) : SRL M W l v := by
  cases l with
  | int k n => cases hs; rfl
  | bool b => cases hs; rfl
  | str s => cases hs; rfl
  | raw h => exact hs.rawv rfl
  | lst xs => exact hs
  | _ => simp [frL] at h
theorem pure_close {s : S} {a : V} (h : pureL (closeL s a) = true) : (∃ t z xs, a = .own t ∧ s.R t = some ⟨z, xs, true⟩ ∧ noLs xs = true) ∨ (∃ z xs, a = .inl z xs) ∨ (leaves a = [a] ∧ ∀ s', closeL s' a = a) ∧ pureL a = true := by
  cases a with
  | own t =>
    left
    simp only [closeL] at h
    cases hR : s.R t with
    | none => simp [hR, pureL] at h
    | some r =>
      obtain ⟨z, xs, w⟩ := r
      cases w with
      | true => exact ⟨t, z, xs, rfl, hR, by simpa [hR, pureL] using h⟩
      | false => simp [hR, pureL] at h
  | inl z xs => exact .inr (.inl ⟨z, xs, rfl⟩)
  | fn f cs => cases cs <;> simp [closeL, pureL] at h
  | lst xs => simp [closeL, pureL] at h
  | int k n => exact .inr (.inr ⟨⟨rfl, fun _ => rfl⟩, rfl⟩)
  | bool b => exact .inr (.inr ⟨⟨rfl, fun _ => rfl⟩, rfl⟩)
  | str b => exact .inr (.inr ⟨⟨rfl, fun _ => rfl⟩, rfl⟩)
  | raw b => exact .inr (.inr ⟨⟨rfl, fun _ => rfl⟩, rfl⟩)
  | nilp => exact .inr (.inr ⟨⟨rfl, fun _ => rfl⟩, rfl⟩)
  | nili => exact .inr (.inr ⟨⟨rfl, fun _ => rfl⟩, rfl⟩)
  | _ => simp [closeL, pureL] at h
def Mem.shut (M : Mem) : Mem := { M with F := fun b => M.F b ∨ b = M.β 0, ω := fun _ => none, nt := 0, nb := 0 }
open Classical in
noncomputable def Mem.open1 (M M' : Mem) : Mem :=
  { M' with F := fun b => M'.F b ∧ b ≠ M.β 0, β := M.β, nb := 1,
            ω := fun b => if b = M.β 0 then some (.box 0) else match M'.ω b with | some (.tok t) => some (.tok t) | _ => none }
def S.open1 (s : S) (x : V) : S :=
  { e := fun _ => .bad, B := fun b => if b = 0 then some x else none, nt := s.nt, nb := 1,
    R := fun t => match s.R t with | some ⟨z, xs, true⟩ => if noLs xs = true then some ⟨z, xs, true⟩ else none | _ => none }
theorem open1_R {s : S} {x : V} {t z : Nat} {xs : List V} (h : s.R t = some ⟨z, xs, true⟩) (hn : noLs xs = true) : (s.open1 x).R t = some ⟨z, xs, true⟩ := by
  simp [S.open1, h, hn]
theorem open1_inv {s : S} {x : V} {t : Nat} {r : Rw} (h : (s.open1 x).R t = some r) : s.R t = some r ∧ r.wr = true ∧ noLs r.xs = true := by
  simp only [S.open1] at h
  split at h
  · rename_i z xs hR
    split at h
    · rename_i hn
      cases h
      exact ⟨hR, rfl, hn⟩
    · cases h
  · cases h
theorem leaf1 {x l : V} {j i : Nat} (h : leafAt [x] j i = some l) : j = 0 ∧ (leaves x)[i]? = some l := by
  unfold leafAt at h
  cases j with
  | zero => exact ⟨rfl, by simpa using h⟩
  | succ j => simp at h
theorem All2.get' {α β : Type} {R : α → β → Prop} {zs : List α} {bs : List β} (h : All2 R zs bs) {i : Nat} {a : α} (ha : zs[i]? = some a) : ∃ b, bs[i]? = some b ∧ R a b := h.get i a ha
/-- The box, told as a list of one that nobody writes. -/
theorem shut_lad {M : Mem} {W : World} {x : V} (hx : BoxV x) (hM : MemOK M W (start [.ptr 0 0] [x])) : MemOK M.shut W (start [.ladr [x] 0 0] []) ∧ SR1 M.shut W (.ladr [x] 0 0) (.pointer (some ⟨M.β 0, 0, none⟩)) ∧ M.nb = 1 ∧ M.nt = 0 ∧
    ∃ (cs : Array Value) (ty : TypeId), W.heap[M.β 0]? = some (.cells cs ty (0, 0)) ∧ M.ω (M.β 0) = some (.box 0) ∧ All2 (SRL M W) (leaves x) cs.toList ∧ M.β 0 < W.heap.size := by
  have hB : (start [.ptr 0 0] [x]).B 0 = some x := by
    have e : (start [.ptr 0 0] [x]).B 0 = some (adC x S.zero).1 := rfl
    rw [e, hx.ad]
  have hnb : M.nb = 1 := hM.nb
  have hnt : M.nt = 0 := by
    rw [hM.nt]
    have e : (start [.ptr 0 0] [x]).nt = (adC x S.zero).2.nt := rfl
    rw [e, hx.ad]
    rfl
  obtain ⟨h0, cs, ty, h1, h2, h3⟩ := hM.box 0 x hB
  have hlt : M.β 0 < W.heap.size := (Array.getElem?_eq_some_iff.1 h1).1
  refine ⟨⟨rfl, rfl, fun b c hb => (by simp [start, adCs] at hb), fun t r hr => (by simp [start, adCs, adC, adL, S.zero] at hr), fun b hf => ⟨rfl, ?_⟩, fun b l hl => (by cases hl), fun b l hl => (by cases hl), fun b l hl => (by cases hl)⟩, ?_, hnb, hnt, cs, ty, h1, h2, h3, hlt⟩
  · rcases hf with hf | hf
    · exact (hM.frz b hf).2
    · rw [hf]; exact hlt
  · have hleaf : ∀ j i l, leafAt [x] j i = some l → ∃ u, W.cell? ⟨M.β 0, 0 + j * (leaves x).length + i, none⟩ = some u ∧ FR W M.shut.F (vw l) u := by
      intro j i l hl
      obtain ⟨rfl, hl⟩ := leaf1 hl
      obtain ⟨u, hu, hr⟩ := h3.get' hl
      refine ⟨u, ?_, ?_⟩
      · rw [cell_of h1]
        simpa using hu
      · exact (frL_FR2 (List.all_eq_true.1 hx.fr l (List.mem_of_getElem? hl)) hr).mono (fun _ _ => rfl) fun b hb => .inl hb
    have hlf : FR W M.shut.F (.lst [x]) (.slice (some ⟨M.β 0, 0, none⟩) [x].length 1) := by
      refine .lst [x] (M.β 0) 0 1 (leaves x).length (fun j i => (W.cell? ⟨M.β 0, 0 + j * (leaves x).length + i, none⟩).getD undef) (.inr rfl) (Nat.le_refl _) (show 1 ≤ maxLen by decide) (fun e he => by rw [List.mem_singleton.1 he]) (fun j i l hl => ?_) (fun j i l hl => ?_)
      · obtain ⟨u, hu, -⟩ := hleaf j i l hl
        simp only [hu, Option.getD_some]
      · obtain ⟨u, hu, hr⟩ := hleaf j i l hl
        simp only [hu, Option.getD_some]
        exact hr
    exact ⟨M.β 0, 0, 1, (leaves x).length, hlf, fun e he => by rw [List.mem_singleton.1 he], hleaf, by simp, by simp⟩
theorem open1_mem {M M' : Mem} {W W' : World} {x : V} {s' : S} (hx : BoxV x) (hM : MemOK M W (start [.ptr 0 0] [x])) (hm : MemOK M' W' s') (he : Evo M.shut W M' W') : MemOK (M.open1 M') W' (s'.open1 x) ∧ Evo M W (M.open1 M') W' := by
  obtain ⟨-, -, hnb, hnt, cs, ty, h1, h2, h3, hlt⟩ := shut_lad hx hM
  have hF0 : M'.F (M.β 0) := he.frz0 _ (.inr rfl)
  have hω0 : M'.ω (M.β 0) = none := (hm.frz _ hF0).1
  have hne : ∀ b, M.F b → b ≠ M.β 0 := fun b hb e => by
    have := (hM.frz b hb).1
    rw [e, h2] at this
    cases this
  have hF : ∀ b, M.F b → (M.open1 M').F b := fun b hb => ⟨he.frz0 _ (.inl hb), hne b hb⟩
  have hW : ∀ b, b < W.heap.size → W'.heap[b]? = W.heap[b]? := fun b hb => he.old b hb rfl
  have htok : ∀ b t, M'.ω b = some (.tok t) → (M.open1 M').ω b = some (.tok t) := fun b t hb => by
    simp only [Mem.open1]
    rw [if_neg (fun e => by rw [e, hω0] at hb; cases hb), hb]
  have hinv : ∀ b l, (M.open1 M').ω b = some l → (b = M.β 0 ∧ l = .box 0) ∨ (b ≠ M.β 0 ∧ ∃ t, l = .tok t ∧ M'.ω b = some (.tok t)) := fun b l hl => by
    simp only [Mem.open1] at hl
    split at hl
    · rename_i e
      cases hl
      exact .inl ⟨e, rfl⟩
    · rename_i e
      split at hl
      · rename_i t ht
        cases hl
        exact .inr ⟨e, t, rfl, ht⟩
      · cases hl
  refine ⟨?_, ?_⟩
  · exact {
      nt := hm.nt
      nb := rfl
      box := fun b c hb => by
        simp only [S.open1] at hb
        split at hb
        · rename_i e
          subst e
          cases hb
          refine ⟨Nat.zero_lt_one, cs, ty, (hW _ hlt).trans h1, if_pos rfl, h3.imp_mem fun l v hl hv => ?_⟩
          have hf := List.all_eq_true.1 hx.fr l hl
          exact frL_SRL2 hf ((frL_FR2 hf hv).mono (fun b hb => hW b (hM.frz b hb).2) hF)
        · cases hb
      row := fun t r hr => by
        obtain ⟨k1, k2, k3⟩ := open1_inv hr
        obtain ⟨h5, h6⟩ := hm.row t r k1
        refine ⟨h5, ?_⟩
        rcases h6 with ⟨hw, B, g1, g2, g3⟩ | ⟨hw, -⟩
        · exact .inl ⟨hw, B, g1.drop k3, fun b hb => htok b t (g2 b hb), g3⟩
        · rw [k2] at hw; cases hw
      frz := fun b hb => by
        obtain ⟨k1, k2⟩ := hb
        obtain ⟨k3, k4⟩ := hm.frz b k1
        refine ⟨?_, k4⟩
        simp only [Mem.open1]
        rw [if_neg k2, k3]
      lt := fun b l hl => by
        rcases hinv b l hl with ⟨rfl, -⟩ | ⟨-, t, -, ht⟩
        · exact Nat.lt_of_lt_of_le hlt he.size
        · exact hm.lt b _ ht
      tok := fun b t hl => by
        rcases hinv b _ hl with ⟨-, h⟩ | ⟨-, t', h, ht⟩
        · cases h
        · cases h; exact hm.tok b _ ht
      bx := fun b k hl => by
        rcases hinv b _ hl with ⟨-, h⟩ | ⟨-, t', h, ht⟩
        · cases h; exact Nat.zero_lt_one
        · cases h }
  · exact {
      os := he.os
      tape := he.tape
      output := he.output
      size := he.size
      old := fun b hb _ => hW b hb
      lab := fun b l hl => by
        rcases hinv b l hl with ⟨rfl, -⟩ | ⟨-, t, -, ht⟩
        · exact .inl (by rw [h2]; simp)
        · rcases he.lab b _ ht with h | h
          · exact absurd rfl h
          · exact .inr h
      frz := fun b hb => by
        rcases he.frz b hb.1 with h | h | h
        · rcases h with h | h
          · exact .inl h
          · exact absurd h hb.2
        · exact absurd rfl h
        · exact .inr (.inr h)
      frz0 := hF
      nt := by rw [hnt]; exact Nat.zero_le _
      nb := by rw [hnb]; exact Nat.le_refl _
      ρ := fun t ht => by rw [hnt] at ht; exact absurd ht (Nat.not_lt_zero _)
      β := fun _ _ => rfl }
theorem pure_SRL {M M' : Mem} {W' : World} {s' : S} {a : V} {v : Value} (h : pureL (closeL s' a) = true) (hs : SRL M' W' a v) : SRL (M.open1 M') W' a v := by
  rcases pure_close h with ⟨t, z, xs, rfl, -, -⟩ | ⟨z, xs, rfl⟩ | ⟨-, hp⟩
  · exact hs
  · exact hs
  · cases a <;> first | exact hs | simp [pureL] at hp
theorem pure_eq {s' : S} {x a : V} (h : pureL (closeL s' a) = true) : closeL (s'.open1 x) a = closeL s' a := by
  rcases pure_close h with ⟨t, z, xs, rfl, hR, hn⟩ | ⟨z, xs, rfl⟩ | ⟨⟨-, hc⟩, -⟩
  · simp only [closeL, open1_R hR hn, hR]
  · rfl
  · rw [hc, hc]
theorem close_pure {s' : S} {sv r : V} (h : closeR s' 0 sv = r) (hp : pureR r = true) :
    (∃ xs, sv = .agg xs ∧ r = .agg (xs.map (closeL s')) ∧ ∀ a ∈ xs, pureL (closeL s' a) = true) ∨ ((∀ xs, sv ≠ .agg xs) ∧ r = closeL s' sv ∧ pureL (closeL s' sv) = true) := by
  subst h
  cases sv with
  | agg xs =>
    refine .inl ⟨xs, rfl, rfl, fun a ha => ?_⟩
    have hp' : (xs.map (closeL s')).all pureL = true := hp
    exact List.all_eq_true.1 hp' _ (List.mem_map.2 ⟨a, ha, rfl⟩)
  | tup xs => simp [closeR, pureR, pureL] at hp
  | ptr b o =>
    exfalso
    cases o with
    | zero =>
      simp only [closeR, closeB, Nat.zero_le, if_true] at hp
      split at hp <;> simp [pureR, pureL] at hp
    | succ o => simp [closeR, closeB, onL1, closeL, pureR, pureL] at hp
  | own t =>
    refine .inr ⟨fun xs e => (by cases e), rfl, ?_⟩
    simp only [closeR, closeB, onL1] at hp
    cases hR : s'.R t with
    | none => simp [closeL, hR, pureR, pureL] at hp
    | some w =>
      obtain ⟨z, ys, wr⟩ := w
      cases wr <;> simpa [closeL, hR, pureR] using hp
  | fn f cs => cases cs <;> simp [closeR, closeB, onL1, closeL, pureR, pureL] at hp
  | _ =>
    first
      | exact .inr ⟨fun xs e => (by cases e), rfl, hp⟩
      | simp [closeR, closeB, onL1, closeL, pureR, pureL] at hp
theorem nodup_filter2 {α : Type} {l : List α} {p q : α → Bool} (h : (l.filter p).Nodup) (hq : ∀ a, q a = true → p a = true) : (l.filter q).Nodup := by
  have e : l.filter q = (l.filter p).filter q := by
    rw [List.filter_filter]
    apply List.filter_congr
    intro a ha
    cases h1 : q a with
    | false => simp
    | true => simp [hq a h1]
  rw [e]
  exact h.sublist List.filter_sublist
theorem open1_wrT {s' : S} {x : V} (t : Nat) (h : (s'.open1 x).wrT t = true) : s'.wrT t = true := by
  unfold S.wrT at *
  cases hR : (s'.open1 x).R t with
  | none => simp [hR] at h
  | some r =>
    obtain ⟨k1, k2, -⟩ := open1_inv hR
    rw [k1]
    exact k2
theorem resToks_ne {s : S} {sv : V} (h1 : ∀ xs, sv ≠ .tup xs) (h2 : ∀ b o, sv ≠ .ptr b o) : resToks s sv = (toks1 sv).filter s.wrT := by
  cases sv <;> first | rfl | exact absurd rfl (h1 _) | exact absurd rfl (h2 _ _)
/-- A box that is read alone. -/
theorem GenOK.of_lad {P : Program} {f : FuncId} {x r : V} (hx : BoxV x) (hf : FunOK P f [.ladr [x] 0 0] false r) (hp : pureR r = true) : GenOK P f [.ptr 0 0] [x] ⟨false, r, [], [x]⟩ := by
  refine ⟨hf.has, ?_⟩
  intro M W vs hM hv
  obtain ⟨h1, h2, hnb, hnt, cs, ty, -⟩ := shut_lad hx hM
  have hv' : All2 (SR1 M W) [.ptr 0 0] vs := hv
  have evs : vs = [.pointer (some ⟨M.β 0, 0, none⟩)] := by
    cases vs with
    | nil => exact hv'.elim
    | cons v vs =>
      cases vs with
      | nil =>
        obtain ⟨-, e⟩ := hv'.1
        rw [e]
      | cons _ _ => exact hv'.2.elim
  subst evs
  refine Calls.mono (hf.calls M.shut W _ h1 ⟨h2, trivial⟩) ?_
  rintro e W' ⟨v, M', s', sv, rfl, hpo⟩
  obtain ⟨hm, he⟩ := open1_mem hx hM hpo.mem hpo.evo
  have hnl := hpo.sh rfl
  have hbt : (List.range 1).flatMap (s'.open1 x).boxToks = [] := by
    have e : (s'.open1 x).boxToks 0 = (toks1 x).filter (s'.open1 x).wrT := rfl
    have e2 : (List.range 1).flatMap (s'.open1 x).boxToks = (s'.open1 x).boxToks 0 ++ [] := rfl
    rw [e2, e, hx.tk]
    rfl
  have hbx : boxOuts (s'.open1 x) 1 = [x] := by
    have e : (s'.open1 x).cont 0 = onL1 (contL (s'.open1 x)) x := rfl
    simp only [boxOuts, show List.range 1 = [0] from rfl, List.map_cons, List.map_nil, e, hx.ct]
  have hres0 : closeR s' 0 sv = r := hpo.res
  have hres := close_pure hres0 hp
  have hnd := hpo.nodup
  simp only [liveOuts, List.append_nil, List.length_nil, List.range_zero, List.flatMap_nil] at hnd
  refine ⟨v, M.open1 M', s'.open1 x, sv, rfl, ?_⟩
  rcases hres with ⟨xs, rfl, hr, hall⟩ | ⟨hna, hr, hall⟩
  · refine ⟨?_, hm, he, ?_, hpo.bnodup, fun _ => ⟨hnl.1, rfl⟩, rfl, trivial, hbx, ?_⟩
    · obtain ⟨vs2, rfl, hv2⟩ := hpo.rel
      exact ⟨vs2, rfl, hv2.imp_mem fun a b ha hab => pure_SRL (hall a ha) hab⟩
    · simp only [liveOuts, List.append_nil]
      show (_ ++ (List.range 1).flatMap (s'.open1 x).boxToks).Nodup
      rw [hbt, List.append_nil]
      exact nodup_filter2 hnd open1_wrT
    · show V.agg (xs.map (closeL (s'.open1 x))) = r
      rw [hr]
      congr 1
      exact List.map_congr_left fun a ha => pure_eq (hall a ha)
  · have hnt : ∀ xs, sv ≠ .tup xs := by
      rintro xs rfl
      simp [closeL, pureL] at hall
    have hnp : ∀ b o, sv ≠ .ptr b o := by
      rintro b o rfl
      simp [closeL, pureL] at hall
    refine ⟨?_, hm, he, ?_, hpo.bnodup, fun _ => ⟨hnl.1, rfl⟩, rfl, trivial, hbx, ?_⟩
    · have h5 := hpo.rel
      have h6 : SRL M' W' sv v := by
        cases sv <;> first | exact h5 | exact absurd rfl (hna _) | exact absurd rfl (hnt _)
      have h7 := pure_SRL (M := M) hall h6
      cases sv <;> first | exact h7 | exact absurd rfl (hna _) | exact absurd rfl (hnt _)
    · simp only [liveOuts, List.append_nil]
      show (_ ++ (List.range 1).flatMap (s'.open1 x).boxToks).Nodup
      rw [hbt, List.append_nil, resToks_ne hnt hnp]
      rw [resToks_ne hnt hnp] at hnd
      exact nodup_filter2 hnd open1_wrT
    · rw [hr, ← pure_eq (x := x) hall]
      cases sv <;> first | rfl | exact absurd rfl (hna _) | exact absurd rfl (hnt _) | exact absurd rfl (hnp _ _)
end Go.TM
end
section
set_option maxHeartbeats 4000000
set_option maxRecDepth 10000
set_option linter.unusedSimpArgs false
set_option linter.unusedVariables false
namespace Go.TM.Tryz
open Go Go.TM Go.Proofs
theorem injS0 {β : Type} (out : Scp → β) : ∀ a b : Scp, (([.ptr 0 0], [a.v]) : List V × List V) = ([.ptr 0 0], [b.v]) → out a = out b := by
  intro a b h
  simp only [Prod.mk.injEq, List.cons.injEq, and_true, true_and] at h
  rw [Scp.v_inj h]
theorem tyEq_eq {x y : Ty} (h : tyEq x y = true) (hy : y ∈ baseTys) : x = y := by
  obtain ⟨h1, h2⟩ := tyEq_base h hy
  obtain ⟨h3, h4⟩ := base_no hy
  simp only [tyEq, Bool.and_eq_true, beq_iff_eq, decide_eq_true_eq] at h
  obtain ⟨⟨⟨⟨⟨a1, a2⟩, a3⟩, -⟩, a4⟩, a5⟩ := h
  cases x
  cases y
  simp only at *
  subst a1 a2 a3 a4 a5 h2 h4
  rfl
theorem tysEq_eq {xs : List Ty} (h : tysEq xs baseTys = true) : xs = baseTys := by
  simp only [tysEq, Bool.and_eq_true, decide_eq_true_eq] at h
  apply List.ext_getElem? 
  intro i
  by_cases hi : i < xs.length
  · have := allI_iff.1 h.2 i _ (List.getElem?_eq_getElem hi)
    have hiy : i < baseTys.length := by omega
    simp only [tyAtEq, List.getElem?_eq_getElem hiy, Option.any_some] at this
    rw [List.getElem?_eq_getElem hi, List.getElem?_eq_getElem hiy, tyEq_eq this (List.getElem_mem hiy)]
  · rw [List.getElem?_eq_none (by omega), List.getElem?_eq_none (by omega)]
theorem scopeI_types {s : Scp} (h : scopeI s = true) : typesB s.types = true := by
  rw [← good_eq] at h
  simp only [goodS, goodTl, Bool.and_eq_true, decide_eq_true_eq, objAtS_iff] at h
  obtain ⟨⟨⟨_, b1, _, b3⟩, _⟩, ⟨⟨⟨_, d2⟩, _⟩, d4⟩, _⟩ := h
  simp only [tableI, Bool.and_eq_true] at d2
  exact d2.1
theorem scopeI_base {s : Scp} (h : scopeI s = true) : s.types.take 3 = baseTys := by
  have h1 := scopeI_types h
  simp only [typesB, Bool.and_eq_true, inB_iff] at h1
  exact tysEq_eq h1.1.2
theorem scopeI_ty {s : Scp} (h : scopeI s = true) : Go.TM.TyRef s.types := by
  have hr := scopeI_refs h
  exact ⟨fun t ht => (hr.ty.ty t ht).base, fun t ht x hx => ((hr.ty.ty t ht).fld x hx).1⟩
theorem scopeI_bok {s : Scp} (h : scopeI s = true) : BOK s.types := by
  have hr := scopeI_refs h
  exact ⟨scopeI_ty h, hr.ty.len, fun t ht => (hr.ty.ty t ht).flds, scopeI_base h⟩
theorem scopeI_ex {s : Scp} (h : scopeI s = true) : ExRef s := by
  have hr := scopeI_refs h
  have hb := scopeI_bok h
  exact ⟨hb.ty, base_len hb.hb, hb.l24, hb.f6, fun o ho => ⟨(hr.obj o ho).type, fun x hx => ((hr.obj o ho).par x hx).1.2⟩, hr.objs, fun o ho => (hr.obj o ho).pars⟩
theorem box_scp (s : Scp) : BoxV s.v := by
  refine ⟨?_, fun _ => rfl, rfl, fun _ => rfl⟩
  simp [leaves, frL]
theorem pure_scp (s : Scp) : pureR s.o = true := by
  simp [pureR, pureL, noL_str, noL_ty, noL_obj, noL_use]
theorem f67_box (s : Scp) (h : scopeI s = true) : GenOK Tryz.prog 67 [.ptr 0 0] [s.v] ⟨false, (exS s).o, [], [s.v]⟩ := by
  have h1 := f67_ok s (scopeI_ex h)
  rw [exI_eq s (scopeI_bok h) (scopeI_ex h)] at h1
  exact GenOK.of_lad (box_scp s) h1 (pure_scp _)
noncomputable def c67 := ctrG (fun s : Scp => scopeI s = true) (fun s => ([.ptr 0 0], [s.v])) (fun s => ⟨false, (exS s).o, [], [s.v]⟩)
theorem c67_eq (s : Scp) (h : scopeI s = true) : c67 [.ptr 0 0] [s.v] = some ⟨false, (exS s).o, [], [s.v]⟩ := ctrG_eq (injS0 _) s h rfl
theorem c67_ok : GOK Tryz.prog (67, [], c67) := ctrG_ok fun s h => f67_box s h
noncomputable def c61 := ctr (fun s : Scp => scopeI s = true) (fun s => [s.v]) (fun s => (false, (exS s).o))
theorem c61_eq (s : Scp) (h : scopeI s = true) : c61 [s.v] = some (false, (exS s).o) := ctr_eq (inj0 Scp.v_inj _) s h rfl
theorem c61_ok : COK Tryz.prog (61, c61) := ctr_ok fun s h => f61_ok s (scopeI_bok h) (scopeI_ex h)
def noS : Scp := ⟨⟨#[]⟩, [], [], [], []⟩
noncomputable def exR (s : Scp) : Scp := if scopeI s = true then exS s else noS
theorem f15_ok (s : Scp) (hl : s.lim) : FunOK Tryz.prog 15 [s.v] false (.tup [(exR s).o, .bool (scopeI s)]) := by
  refine fun_ok (mkE_ok zmix (cl := [(66, c66)]) (gl := [(67, [], c67)]) [] c66_ok c67_ok) Tryz.func15 (by kernel_rfl) ?_
  refine FunW_run _ _ rfl rfl ?_
  have ea := c66_eq s hl
  simp only [Scp.v] at ea
  have hnl : noL (exS s).o = true := by
    simp [noL, noLs, noL_str, noL_ty, noL_obj, noL_use]
  cases hsa : scopeI s with
  | false =>
    rw [hsa] at ea
    simp [ea, exR, hsa, noS]
  | true =>
    rw [hsa] at ea
    have ec := c67_eq s hsa
    simp only [Scp.v, Scp.o] at ec
    simp only [Scp.o] at hnl
    have e : exR s = exS s := by simp [exR, hsa]
    rw [e]
    generalize exS s = X at *
    simp [ea, ec, hnl]
theorem f13_ok (s : Scp) (hl : s.lim) : FunOK Tryz.prog 13 [s.v] false (.tup [(exR s).o, .bool (scopeI s)]) := by
  refine fun_ok (mkE_ok zmix (cl := [(60, c60), (61, c61)]) (gl := []) [] ⟨c60_ok, c61_ok⟩ trivial) Tryz.func13 (by kernel_rfl) ?_
  refine FunW_run _ _ rfl rfl ?_
  have ea := c60_eq s hl
  simp only [Scp.v] at ea
  have hnl : noL (exS s).o = true := by
    simp [noL, noLs, noL_str, noL_ty, noL_obj, noL_use]
  cases hsa : scopeI s with
  | false =>
    rw [hsa] at ea
    simp [ea, exR, hsa, noS]
  | true =>
    rw [hsa] at ea
    have ec := c61_eq s hsa
    simp only [Scp.v, Scp.o] at ec
    simp only [Scp.o] at hnl
    have e : exR s = exS s := by simp [exR, hsa]
    rw [e]
    generalize exS s = X at *
    simp [ea, ec, hnl]
end Go.TM.Tryz
end
section
set_option linter.unusedVariables false
namespace Go.TM
open Go
/-! ### marks, in what is marked -/
theorem cnt_mk {α : Type} {mk : Int → α → α} {c : α → Nat} (h : ∀ k x, c (mk k x) = c x) : ∀ (k : Int) (xs : List α), cnt c (mkL mk c k xs) = cnt c xs
  | k, [] => rfl
  | k, x :: xs => by
    have ih := cnt_mk h (k + c x) xs
    simp only [cnt] at ih ⊢
    simp only [mkL, List.map_cons, List.sum_cons, ih, h]
theorem cStr_mk (k : Int) (x : ByteArray) : cStr (mkStr k x) = cStr x := rfl
theorem cFld_mk (k : Int) (x : Fld) : cFld (mkFld k x) = cFld x := rfl
theorem cPar_mk (k : Int) (x : Par) : cPar (mkPar k x) = cPar x := rfl
theorem cUse_mk (k : Int) (x : Use) : cUse (mkUse k x) = cUse x := rfl
theorem cTy_mk (k : Int) (x : Ty) : cTy (mkTy k x) = cTy x := by
  simp only [cTy, mkTy, cnt_mk cFld_mk]
theorem cObj_mk (k : Int) (x : Obj) : cObj (mkObj k x) = cObj x := by
  simp only [cObj, mkObj, cnt_mk cPar_mk]
/-- A scope's slices, marked; its name is not. -/
def mkScp (k : Int) (x : Scp) : Scp :=
  ⟨x.name, mkL mkStr cStr k x.imports, mkL mkTy cTy (k + (cnt cStr x.imports : Nat)) x.types, mkL mkObj cObj (k + (cnt cStr x.imports : Nat) + (cnt cTy x.types : Nat)) x.objects,
    mkL mkUse cUse (k + (cnt cStr x.imports : Nat) + (cnt cTy x.types : Nat) + (cnt cObj x.objects : Nat)) x.uses⟩
theorem cScp_mk (k : Int) (x : Scp) : cScp (mkScp k x) = cScp x := by
  simp only [cScp, mkScp, cnt_mk cStr_mk, cnt_mk cTy_mk, cnt_mk cObj_mk, cnt_mk cUse_mk]
/-- A contract by what is marked. -/
noncomputable def ctrH {α : Type} (mk : Int → α → α) (c : α → Nat) (f : α → V) (p : List α → Int → Prop) : List V → Option (Bool × V) :=
  ctr (fun a : List α × Int => ∃ xs, a.1 = mkL mk c a.2 xs ∧ p xs a.2) (fun a => [.lst (a.1.map f), .int .i64 a.2]) (fun a => (false, .int .i64 (a.2 + (cnt c a.1 : Nat))))
theorem ctrH_eq {α : Type} {mk : Int → α → α} {c : α → Nat} {f : α → V} {p : List α → Int → Prop} (hc : ∀ k x, c (mk k x) = c x) (hf : Function.Injective f) (xs : List α) (k : Int) (h : p xs k) :
    ctrH mk c f p [.lst ((mkL mk c k xs).map f), .int .i64 k] = some (false, .int .i64 (k + (cnt c xs : Nat))) := by
  have h1 := ctr_eq (p := fun a : List α × Int => ∃ xs, a.1 = mkL mk c a.2 xs ∧ p xs a.2) (enc := fun a => [.lst (a.1.map f), .int .i64 a.2]) (out := fun a => (false, .int .i64 (a.2 + (cnt c a.1 : Nat)))) (injl1 hf _) (mkL mk c k xs, k) ⟨xs, rfl, h⟩ rfl
  simp only [cnt_mk hc] at h1
  exact h1
theorem ctrH_ok {α : Type} {mk : Int → α → α} {c : α → Nat} {f : α → V} {p : List α → Int → Prop} {P : Program} {n : Nat} (hc : ∀ k x, c (mk k x) = c x) (hf : ∀ xs k, p xs k → FunOK P n [.lst ((mkL mk c k xs).map f), .int .i64 k] false (.int .i64 (k + (cnt c xs : Nat)))) :
    COK P (n, ctrH mk c f p) := ctr_ok fun a h => by
  obtain ⟨zs, k⟩ := a
  obtain ⟨xs, e, h⟩ := h
  simp only at e h
  subst e
  simp only [cnt_mk hc]
  exact hf xs k h
end Go.TM
end
section
set_option maxHeartbeats 2000000
set_option linter.unusedSimpArgs false
set_option linter.unusedVariables false
namespace Go.TM.Tryz
open Go Go.TM Go.Proofs
theorem f88_ok (k : Int) (h : k ≤ 4611686018427387904) : FunOK Tryz.prog 88 [.int .i64 k] false (.str (mtext k)) := by
  refine fun_ok (mkE_ok zmix (cl := []) (gl := []) [] trivial trivial) Tryz.func88 (by kernel_rfl) ?_
  refine FunW_run _ _ rfl rfl ?_
  by_cases h0 : k ≤ 0
  · simp [h0, mtext]
  · simp [h0]
    refine lp_ind (fun m t => ∃ (n : Nat) (out : ByteArray), m = n ∧ t.e 0 = .int .i64 n ∧ t.e 3 = .str out ∧ mdig n ++ out = mdig k.toNat ∧ out.size + n ≤ k) k.toNat ⟨k.toNat, ⟨#[]⟩, rfl, ?_⟩ ?_
    · have e : ((k.toNat : Nat) : Int) = k := by omega
      simp [e, ba_append_nil, ba_nil_size]
    rintro c' L hL m t ih ⟨n, out, rfl, h1, h3, hout, hsz⟩
    by_cases hn : m = 0
    · subst hn
      have hb : 1 + out.size ≤ 9223372036854775807 := by omega
      rw [mdig_zero, ba_nil_append] at hout
      subst hout
      simp [h1, h3, hL, ba_one_size, hb, mtext, h0]
    · have hn' : 0 < m := by omega
      have ht : Int.tdiv (m : Int) 10 = ((m / 10 : Nat) : Int) := by
        rw [Int.tdiv_eq_ediv_of_nonneg (by omega)]
        omega
      have hb : 1 + out.size ≤ 9223372036854775807 := by omega
      have hw : IntKind.i64.wrap ((m : Int) / 10) = (m : Int) / 10 := wrap64 (by omega) (by omega)
      simp [h1, h3, hL, hn', ht, ba_one_size, hb]
      refine ih (m / 10) _ (by omega) ⟨m / 10, _, rfl, by simp [hw], by simp; rfl, ?_, ?_⟩
      · rw [← ByteArray.append_assoc, ← mdig_succ hn, hout]
      · rw [ByteArray.size_append, ba_one_size]
        omega
noncomputable def c88 := ctr (fun k : Int => k ≤ 4611686018427387904) (fun k => [.int .i64 k]) (fun k => (false, .str (mtext k)))
theorem c88_eq (k : Int) (h : k ≤ 4611686018427387904) : c88 [.int .i64 k] = some (false, .str (mtext k)) := ctr_eq (by simp) k h rfl
theorem c88_ok : COK Tryz.prog (88, c88) := ctr_ok fun k h => f88_ok k h

theorem f50_ok (xs : List ByteArray) (k : Int) (h0 : 0 ≤ k) (h1 : k + cnt cStr xs ≤ 4611686018427387904) (h2 : xs.length ≤ 4611686018427387904) : GenOK Tryz.prog 50 [.inl 1 (xs.map V.str), .int .i64 k] [] ⟨false, .int .i64 (k + cnt cStr xs), [.inl 1 ((mkL mkStr cStr k xs).map V.str)], []⟩ := by
  refine fun_okG (mkE_ok zmix (cl := [(88, c88)]) (gl := []) [] c88_ok trivial) Tryz.func50 (by kernel_rfl) ?_
  refine FunG_run _ _ rfl rfl ?_
  have hlen := h2
  simp
  refine lp_list xs (fun i t => t.e 0 = .own 0 ∧ t.e 1 = .int .i64 (k + pre cStr xs i) ∧ t.e 5 = .int .i64 i ∧ t.nb = 0 ∧ 1 ≤ t.nt ∧ t.R 0 = some ⟨1, (mpart mkStr cStr k xs i).map V.str, true⟩) ?_ ?_ ?_
  · simp [pre_zero, mpart_zero]
  · rintro c' L hL i t x hx hi ih ⟨g0, g1, g5, gnb, gnt, gR⟩
    have hw : IntKind.i64.wrap ((i : Int) + 1) = ((i + 1 : Nat) : Int) := wrap64 (by omega) (by omega)
    have hp := pre_succ cStr hx
    have hp2 := pre_le cStr xs (i + 1)
    have hc : cStr x = 1 := rfl
    have hcnt : (xs.map cStr).sum = cnt cStr xs := rfl
    have e0 := c88_eq (k + (pre cStr xs i : Nat)) (by omega)
    have w0 : IntKind.i64.wrap (k + (pre cStr xs i : Nat) + 1) = k + (pre cStr xs i : Nat) + 1 := wrap64 (by omega) (by omega)
    have hx' := mpart_get (f := mkStr) (c := cStr) (k := k) hx
    simp [-getElem?_pos, List.getElem?_cons_zero, List.getElem?_cons_succ, g0, g1, g5, gnb, gR, hL, hx', hi, e0, w0]
    refine ih _ ?_
    simp [-getElem?_pos, List.getElem?_cons_zero, List.getElem?_cons_succ, g0, g1, g5, gnb, gR, hL, hx', hi, e0, w0, hp, hc, hw]
    first
      | exact ⟨by omega, by omega, mpart_setv hx rfl⟩
      | exact ⟨by omega, mpart_setv hx rfl⟩
      | exact mpart_setv hx rfl
  · rintro c' t ⟨g0, g1, g5, gnb, gnt, gR⟩
    simp only [pre_all] at g1
    simp [g0, g1, g5, gnb, gR, mpart_all, cnt]
noncomputable def c50 := ctrG (fun a : List ByteArray × Int => 0 ≤ a.2 ∧ a.2 + cnt cStr a.1 ≤ 4611686018427387904 ∧ (a.1.length ≤ 4611686018427387904)) (fun a => ([.inl 1 (a.1.map V.str), .int .i64 a.2], [])) (fun a => ⟨false, .int .i64 (a.2 + cnt cStr a.1), [.inl 1 ((mkL mkStr cStr a.2 a.1).map V.str)], []⟩)
theorem c50_eq (xs : List ByteArray) (k : Int) (h0 : 0 ≤ k) (h1 : k + cnt cStr xs ≤ 4611686018427387904) (h2 : xs.length ≤ 4611686018427387904) : c50 [.inl 1 (xs.map V.str), .int .i64 k] [] = some ⟨false, .int .i64 (k + cnt cStr xs), [.inl 1 ((mkL mkStr cStr k xs).map V.str)], []⟩ := ctrG_eq (injG str_inj _) (xs, k) ⟨h0, h1, h2⟩ rfl
theorem c50_ok : GOK Tryz.prog (50, [true], c50) := ctrG_ok fun a h => f50_ok a.1 a.2 h.1 h.2.1 h.2.2

theorem f136_ok (xs : List Fld) (k : Int) (h0 : 0 ≤ k) (h1 : k + cnt cFld xs ≤ 4611686018427387904) (h2 : xs.length ≤ 4611686018427387904) : GenOK Tryz.prog 136 [.inl 3 (xs.map Fld.v), .int .i64 k] [] ⟨false, .int .i64 (k + cnt cFld xs), [.inl 3 ((mkL mkFld cFld k xs).map Fld.v)], []⟩ := by
  refine fun_okG (mkE_ok zmix (cl := [(88, c88)]) (gl := []) [] c88_ok trivial) Tryz.func136 (by kernel_rfl) ?_
  refine FunG_run _ _ rfl rfl ?_
  have hlen := h2
  simp
  refine lp_list xs (fun i t => t.e 0 = .own 0 ∧ t.e 1 = .int .i64 (k + pre cFld xs i) ∧ t.e 5 = .int .i64 i ∧ t.nb = 0 ∧ 1 ≤ t.nt ∧ t.R 0 = some ⟨3, (mpart mkFld cFld k xs i).map Fld.v, true⟩) ?_ ?_ ?_
  · simp [pre_zero, mpart_zero]
  · rintro c' L hL i t x hx hi ih ⟨g0, g1, g5, gnb, gnt, gR⟩
    have hw : IntKind.i64.wrap ((i : Int) + 1) = ((i + 1 : Nat) : Int) := wrap64 (by omega) (by omega)
    have hp := pre_succ cFld hx
    have hp2 := pre_le cFld xs (i + 1)
    have hc : cFld x = 3 := rfl
    have hcnt : (xs.map cFld).sum = cnt cFld xs := rfl
    have e0 := c88_eq (k + (pre cFld xs i : Nat)) (by omega)
    have w0 : IntKind.i64.wrap (k + (pre cFld xs i : Nat) + 1) = k + (pre cFld xs i : Nat) + 1 := wrap64 (by omega) (by omega)
    have w1 : IntKind.i64.wrap (k + (pre cFld xs i : Nat) + 1 + 1) = k + (pre cFld xs i : Nat) + 1 + 1 := wrap64 (by omega) (by omega)
    have w2 : IntKind.i64.wrap (k + (pre cFld xs i : Nat) + 1 + 1 + 1) = k + (pre cFld xs i : Nat) + 1 + 1 + 1 := wrap64 (by omega) (by omega)
    have hx' := mpart_get (f := mkFld) (c := cFld) (k := k) hx
    simp [-getElem?_pos, List.getElem?_cons_zero, List.getElem?_cons_succ, g0, g1, g5, gnb, gR, hL, hx', hi, e0, w0, w1, w2]
    refine ih _ ?_
    simp [-getElem?_pos, List.getElem?_cons_zero, List.getElem?_cons_succ, g0, g1, g5, gnb, gR, hL, hx', hi, e0, w0, w1, w2, hp, hc, hw]
    first
      | exact ⟨by omega, by omega, mpart_setv hx rfl⟩
      | exact ⟨by omega, mpart_setv hx rfl⟩
      | exact mpart_setv hx rfl
  · rintro c' t ⟨g0, g1, g5, gnb, gnt, gR⟩
    simp only [pre_all] at g1
    simp [g0, g1, g5, gnb, gR, mpart_all, cnt]
noncomputable def c136 := ctrG (fun a : List Fld × Int => 0 ≤ a.2 ∧ a.2 + cnt cFld a.1 ≤ 4611686018427387904 ∧ (a.1.length ≤ 4611686018427387904)) (fun a => ([.inl 3 (a.1.map Fld.v), .int .i64 a.2], [])) (fun a => ⟨false, .int .i64 (a.2 + cnt cFld a.1), [.inl 3 ((mkL mkFld cFld a.2 a.1).map Fld.v)], []⟩)
theorem c136_eq (xs : List Fld) (k : Int) (h0 : 0 ≤ k) (h1 : k + cnt cFld xs ≤ 4611686018427387904) (h2 : xs.length ≤ 4611686018427387904) : c136 [.inl 3 (xs.map Fld.v), .int .i64 k] [] = some ⟨false, .int .i64 (k + cnt cFld xs), [.inl 3 ((mkL mkFld cFld k xs).map Fld.v)], []⟩ := ctrG_eq (injG Fld.v_inj _) (xs, k) ⟨h0, h1, h2⟩ rfl
theorem c136_ok : GOK Tryz.prog (136, [true], c136) := ctrG_ok fun a h => f136_ok a.1 a.2 h.1 h.2.1 h.2.2

theorem f137_ok (xs : List Par) (k : Int) (h0 : 0 ≤ k) (h1 : k + cnt cPar xs ≤ 4611686018427387904) (h2 : xs.length ≤ 4611686018427387904) : GenOK Tryz.prog 137 [.inl 3 (xs.map Par.v), .int .i64 k] [] ⟨false, .int .i64 (k + cnt cPar xs), [.inl 3 ((mkL mkPar cPar k xs).map Par.v)], []⟩ := by
  refine fun_okG (mkE_ok zmix (cl := [(88, c88)]) (gl := []) [] c88_ok trivial) Tryz.func137 (by kernel_rfl) ?_
  refine FunG_run _ _ rfl rfl ?_
  have hlen := h2
  simp
  refine lp_list xs (fun i t => t.e 0 = .own 0 ∧ t.e 1 = .int .i64 (k + pre cPar xs i) ∧ t.e 5 = .int .i64 i ∧ t.nb = 0 ∧ 1 ≤ t.nt ∧ t.R 0 = some ⟨3, (mpart mkPar cPar k xs i).map Par.v, true⟩) ?_ ?_ ?_
  · simp [pre_zero, mpart_zero]
  · rintro c' L hL i t x hx hi ih ⟨g0, g1, g5, gnb, gnt, gR⟩
    have hw : IntKind.i64.wrap ((i : Int) + 1) = ((i + 1 : Nat) : Int) := wrap64 (by omega) (by omega)
    have hp := pre_succ cPar hx
    have hp2 := pre_le cPar xs (i + 1)
    have hc : cPar x = 3 := rfl
    have hcnt : (xs.map cPar).sum = cnt cPar xs := rfl
    have e0 := c88_eq (k + (pre cPar xs i : Nat)) (by omega)
    have w0 : IntKind.i64.wrap (k + (pre cPar xs i : Nat) + 1) = k + (pre cPar xs i : Nat) + 1 := wrap64 (by omega) (by omega)
    have w1 : IntKind.i64.wrap (k + (pre cPar xs i : Nat) + 1 + 1) = k + (pre cPar xs i : Nat) + 1 + 1 := wrap64 (by omega) (by omega)
    have w2 : IntKind.i64.wrap (k + (pre cPar xs i : Nat) + 1 + 1 + 1) = k + (pre cPar xs i : Nat) + 1 + 1 + 1 := wrap64 (by omega) (by omega)
    have hx' := mpart_get (f := mkPar) (c := cPar) (k := k) hx
    simp [-getElem?_pos, List.getElem?_cons_zero, List.getElem?_cons_succ, g0, g1, g5, gnb, gR, hL, hx', hi, e0, w0, w1, w2]
    refine ih _ ?_
    simp [-getElem?_pos, List.getElem?_cons_zero, List.getElem?_cons_succ, g0, g1, g5, gnb, gR, hL, hx', hi, e0, w0, w1, w2, hp, hc, hw]
    first
      | exact ⟨by omega, by omega, mpart_setv hx rfl⟩
      | exact ⟨by omega, mpart_setv hx rfl⟩
      | exact mpart_setv hx rfl
  · rintro c' t ⟨g0, g1, g5, gnb, gnt, gR⟩
    simp only [pre_all] at g1
    simp [g0, g1, g5, gnb, gR, mpart_all, cnt]
noncomputable def c137 := ctrG (fun a : List Par × Int => 0 ≤ a.2 ∧ a.2 + cnt cPar a.1 ≤ 4611686018427387904 ∧ (a.1.length ≤ 4611686018427387904)) (fun a => ([.inl 3 (a.1.map Par.v), .int .i64 a.2], [])) (fun a => ⟨false, .int .i64 (a.2 + cnt cPar a.1), [.inl 3 ((mkL mkPar cPar a.2 a.1).map Par.v)], []⟩)
theorem c137_eq (xs : List Par) (k : Int) (h0 : 0 ≤ k) (h1 : k + cnt cPar xs ≤ 4611686018427387904) (h2 : xs.length ≤ 4611686018427387904) : c137 [.inl 3 (xs.map Par.v), .int .i64 k] [] = some ⟨false, .int .i64 (k + cnt cPar xs), [.inl 3 ((mkL mkPar cPar k xs).map Par.v)], []⟩ := ctrG_eq (injG Par.v_inj _) (xs, k) ⟨h0, h1, h2⟩ rfl
theorem c137_ok : GOK Tryz.prog (137, [true], c137) := ctrG_ok fun a h => f137_ok a.1 a.2 h.1 h.2.1 h.2.2

theorem f45_ok (xs : List Use) (k : Int) (h0 : 0 ≤ k) (h1 : k + cnt cUse xs ≤ 4611686018427387904) (h2 : xs.length ≤ 4611686018427387904) : GenOK Tryz.prog 45 [.inl 2 (xs.map Use.v), .int .i64 k] [] ⟨false, .int .i64 (k + cnt cUse xs), [.inl 2 ((mkL mkUse cUse k xs).map Use.v)], []⟩ := by
  refine fun_okG (mkE_ok zmix (cl := [(88, c88)]) (gl := []) [] c88_ok trivial) Tryz.func45 (by kernel_rfl) ?_
  refine FunG_run _ _ rfl rfl ?_
  have hlen := h2
  simp
  refine lp_list xs (fun i t => t.e 0 = .own 0 ∧ t.e 1 = .int .i64 (k + pre cUse xs i) ∧ t.e 5 = .int .i64 i ∧ t.nb = 0 ∧ 1 ≤ t.nt ∧ t.R 0 = some ⟨2, (mpart mkUse cUse k xs i).map Use.v, true⟩) ?_ ?_ ?_
  · simp [pre_zero, mpart_zero]
  · rintro c' L hL i t x hx hi ih ⟨g0, g1, g5, gnb, gnt, gR⟩
    have hw : IntKind.i64.wrap ((i : Int) + 1) = ((i + 1 : Nat) : Int) := wrap64 (by omega) (by omega)
    have hp := pre_succ cUse hx
    have hp2 := pre_le cUse xs (i + 1)
    have hc : cUse x = 2 := rfl
    have hcnt : (xs.map cUse).sum = cnt cUse xs := rfl
    have e0 := c88_eq (k + (pre cUse xs i : Nat)) (by omega)
    have w0 : IntKind.i64.wrap (k + (pre cUse xs i : Nat) + 1) = k + (pre cUse xs i : Nat) + 1 := wrap64 (by omega) (by omega)
    have e1 := c88_eq (k + (pre cUse xs i : Nat) + 1) (by omega)
    have w1 : IntKind.i64.wrap (k + (pre cUse xs i : Nat) + 1 + 1) = k + (pre cUse xs i : Nat) + 1 + 1 := wrap64 (by omega) (by omega)
    have hx' := mpart_get (f := mkUse) (c := cUse) (k := k) hx
    simp [-getElem?_pos, List.getElem?_cons_zero, List.getElem?_cons_succ, g0, g1, g5, gnb, gR, hL, hx', hi, e0, w0, e1, w1]
    refine ih _ ?_
    simp [-getElem?_pos, List.getElem?_cons_zero, List.getElem?_cons_succ, g0, g1, g5, gnb, gR, hL, hx', hi, e0, w0, e1, w1, hp, hc, hw]
    first
      | exact ⟨by omega, by omega, mpart_setv hx rfl⟩
      | exact ⟨by omega, mpart_setv hx rfl⟩
      | exact mpart_setv hx rfl
  · rintro c' t ⟨g0, g1, g5, gnb, gnt, gR⟩
    simp only [pre_all] at g1
    simp [g0, g1, g5, gnb, gR, mpart_all, cnt]
noncomputable def c45 := ctrG (fun a : List Use × Int => 0 ≤ a.2 ∧ a.2 + cnt cUse a.1 ≤ 4611686018427387904 ∧ (a.1.length ≤ 4611686018427387904)) (fun a => ([.inl 2 (a.1.map Use.v), .int .i64 a.2], [])) (fun a => ⟨false, .int .i64 (a.2 + cnt cUse a.1), [.inl 2 ((mkL mkUse cUse a.2 a.1).map Use.v)], []⟩)
theorem c45_eq (xs : List Use) (k : Int) (h0 : 0 ≤ k) (h1 : k + cnt cUse xs ≤ 4611686018427387904) (h2 : xs.length ≤ 4611686018427387904) : c45 [.inl 2 (xs.map Use.v), .int .i64 k] [] = some ⟨false, .int .i64 (k + cnt cUse xs), [.inl 2 ((mkL mkUse cUse k xs).map Use.v)], []⟩ := ctrG_eq (injG Use.v_inj _) (xs, k) ⟨h0, h1, h2⟩ rfl
theorem c45_ok : GOK Tryz.prog (45, [true], c45) := ctrG_ok fun a h => f45_ok a.1 a.2 h.1 h.2.1 h.2.2

theorem f70_ok (xs : List Ty) (k : Int) (h0 : 0 ≤ k) (h1 : k + cnt cTy xs ≤ 4611686018427387904) (h2 : xs.length ≤ 4611686018427387904 ∧ ∀ x ∈ xs, x.fields.length ≤ 4611686018427387904) : GenOK Tryz.prog 70 [.inl 6 (xs.map Ty.o), .int .i64 k] [] ⟨false, .int .i64 (k + cnt cTy xs), [.inl 6 ((mkL mkTy cTy k xs).map Ty.o)], []⟩ := by
  refine fun_okG (mkE_ok zmix (cl := [(88, c88)]) (gl := [(136, [true], c136)]) [] c88_ok c136_ok) Tryz.func70 (by kernel_rfl) ?_
  refine FunG_run _ _ rfl rfl ?_
  have hlen := h2.1
  simp
  refine lp_list xs (fun i t => t.e 0 = .own 0 ∧ t.e 1 = .int .i64 (k + pre cTy xs i) ∧ t.e 5 = .int .i64 i ∧ t.nb = 0 ∧ 1 ≤ t.nt ∧ t.R 0 = some ⟨6, (mpart mkTy cTy k xs i).map Ty.o, true⟩) ?_ ?_ ?_
  · simp [pre_zero, mpart_zero]
  · rintro c' L hL i t x hx hi ih ⟨g0, g1, g5, gnb, gnt, gR⟩
    have hw : IntKind.i64.wrap ((i : Int) + 1) = ((i + 1 : Nat) : Int) := wrap64 (by omega) (by omega)
    have hp := pre_succ cTy hx
    have hp2 := pre_le cTy xs (i + 1)
    have hc : cTy x = 5+cnt cFld x.fields := rfl
    have hcnt : (xs.map cTy).sum = cnt cTy xs := rfl
    have hlen3 : x.fields.length ≤ 4611686018427387904 := h2.2 x (List.mem_of_getElem? hx)
    have w0 : IntKind.i64.wrap (k + (pre cTy xs i : Nat) + 1) = k + (pre cTy xs i : Nat) + 1 := wrap64 (by omega) (by omega)
    have w1 : IntKind.i64.wrap (k + (pre cTy xs i : Nat) + 1 + 1) = k + (pre cTy xs i : Nat) + 1 + 1 := wrap64 (by omega) (by omega)
    have w2 : IntKind.i64.wrap (k + (pre cTy xs i : Nat) + 1 + 1 + 1) = k + (pre cTy xs i : Nat) + 1 + 1 + 1 := wrap64 (by omega) (by omega)
    have e3 := c136_eq x.fields (k + (pre cTy xs i : Nat) + 1 + 1 + 1) (by omega) (by omega) hlen3
    have e4 := c88_eq (k + (pre cTy xs i : Nat) + 1 + 1 + 1 + (cnt cFld x.fields : Nat)) (by omega)
    have w4 : IntKind.i64.wrap (k + (pre cTy xs i : Nat) + 1 + 1 + 1 + (cnt cFld x.fields : Nat) + 1) = k + (pre cTy xs i : Nat) + 1 + 1 + 1 + (cnt cFld x.fields : Nat) + 1 := wrap64 (by omega) (by omega)
    have e5 := c88_eq (k + (pre cTy xs i : Nat) + 1 + 1 + 1 + (cnt cFld x.fields : Nat) + 1) (by omega)
    have w5 : IntKind.i64.wrap (k + (pre cTy xs i : Nat) + 1 + 1 + 1 + (cnt cFld x.fields : Nat) + 1 + 1) = k + (pre cTy xs i : Nat) + 1 + 1 + 1 + (cnt cFld x.fields : Nat) + 1 + 1 := wrap64 (by omega) (by omega)
    have hx' := mpart_get (f := mkTy) (c := cTy) (k := k) hx
    simp [-getElem?_pos, List.getElem?_cons_zero, List.getElem?_cons_succ, g0, g1, g5, gnb, gR, hL, hx', hi, w0, w1, w2, e3, e4, w4, e5, w5]
    refine ih _ ?_
    simp [-getElem?_pos, List.getElem?_cons_zero, List.getElem?_cons_succ, g0, g1, g5, gnb, gR, hL, hx', hi, w0, w1, w2, e3, e4, w4, e5, w5, hp, hc, hw]
    first
      | exact ⟨by omega, by omega, mpart_setv hx rfl⟩
      | exact ⟨by omega, mpart_setv hx rfl⟩
      | exact mpart_setv hx rfl
  · rintro c' t ⟨g0, g1, g5, gnb, gnt, gR⟩
    simp only [pre_all] at g1
    simp [g0, g1, g5, gnb, gR, mpart_all, cnt]
noncomputable def c70 := ctrG (fun a : List Ty × Int => 0 ≤ a.2 ∧ a.2 + cnt cTy a.1 ≤ 4611686018427387904 ∧ (a.1.length ≤ 4611686018427387904 ∧ ∀ x ∈ a.1, x.fields.length ≤ 4611686018427387904)) (fun a => ([.inl 6 (a.1.map Ty.o), .int .i64 a.2], [])) (fun a => ⟨false, .int .i64 (a.2 + cnt cTy a.1), [.inl 6 ((mkL mkTy cTy a.2 a.1).map Ty.o)], []⟩)
theorem c70_eq (xs : List Ty) (k : Int) (h0 : 0 ≤ k) (h1 : k + cnt cTy xs ≤ 4611686018427387904) (h2 : xs.length ≤ 4611686018427387904 ∧ ∀ x ∈ xs, x.fields.length ≤ 4611686018427387904) : c70 [.inl 6 (xs.map Ty.o), .int .i64 k] [] = some ⟨false, .int .i64 (k + cnt cTy xs), [.inl 6 ((mkL mkTy cTy k xs).map Ty.o)], []⟩ := ctrG_eq (injG Ty.o_inj _) (xs, k) ⟨h0, h1, h2⟩ rfl
theorem c70_ok : GOK Tryz.prog (70, [true], c70) := ctrG_ok fun a h => f70_ok a.1 a.2 h.1 h.2.1 h.2.2

theorem f71_ok (xs : List Obj) (k : Int) (h0 : 0 ≤ k) (h1 : k + cnt cObj xs ≤ 4611686018427387904) (h2 : xs.length ≤ 4611686018427387904 ∧ ∀ x ∈ xs, x.params.length ≤ 4611686018427387904) : GenOK Tryz.prog 71 [.inl 6 (xs.map Obj.o), .int .i64 k] [] ⟨false, .int .i64 (k + cnt cObj xs), [.inl 6 ((mkL mkObj cObj k xs).map Obj.o)], []⟩ := by
  refine fun_okG (mkE_ok zmix (cl := [(88, c88)]) (gl := [(137, [true], c137)]) [] c88_ok c137_ok) Tryz.func71 (by kernel_rfl) ?_
  refine FunG_run _ _ rfl rfl ?_
  have hlen := h2.1
  simp
  refine lp_list xs (fun i t => t.e 0 = .own 0 ∧ t.e 1 = .int .i64 (k + pre cObj xs i) ∧ t.e 5 = .int .i64 i ∧ t.nb = 0 ∧ 1 ≤ t.nt ∧ t.R 0 = some ⟨6, (mpart mkObj cObj k xs i).map Obj.o, true⟩) ?_ ?_ ?_
  · simp [pre_zero, mpart_zero]
  · rintro c' L hL i t x hx hi ih ⟨g0, g1, g5, gnb, gnt, gR⟩
    have hw : IntKind.i64.wrap ((i : Int) + 1) = ((i + 1 : Nat) : Int) := wrap64 (by omega) (by omega)
    have hp := pre_succ cObj hx
    have hp2 := pre_le cObj xs (i + 1)
    have hc : cObj x = 5+cnt cPar x.params := rfl
    have hcnt : (xs.map cObj).sum = cnt cObj xs := rfl
    have hlen5 : x.params.length ≤ 4611686018427387904 := h2.2 x (List.mem_of_getElem? hx)
    have e0 := c88_eq (k + (pre cObj xs i : Nat)) (by omega)
    have w0 : IntKind.i64.wrap (k + (pre cObj xs i : Nat) + 1) = k + (pre cObj xs i : Nat) + 1 := wrap64 (by omega) (by omega)
    have w1 : IntKind.i64.wrap (k + (pre cObj xs i : Nat) + 1 + 1) = k + (pre cObj xs i : Nat) + 1 + 1 := wrap64 (by omega) (by omega)
    have w2 : IntKind.i64.wrap (k + (pre cObj xs i : Nat) + 1 + 1 + 1) = k + (pre cObj xs i : Nat) + 1 + 1 + 1 := wrap64 (by omega) (by omega)
    have w3 : IntKind.i64.wrap (k + (pre cObj xs i : Nat) + 1 + 1 + 1 + 1) = k + (pre cObj xs i : Nat) + 1 + 1 + 1 + 1 := wrap64 (by omega) (by omega)
    have w4 : IntKind.i64.wrap (k + (pre cObj xs i : Nat) + 1 + 1 + 1 + 1 + 1) = k + (pre cObj xs i : Nat) + 1 + 1 + 1 + 1 + 1 := wrap64 (by omega) (by omega)
    have e5 := c137_eq x.params (k + (pre cObj xs i : Nat) + 1 + 1 + 1 + 1 + 1) (by omega) (by omega) hlen5
    have hx' := mpart_get (f := mkObj) (c := cObj) (k := k) hx
    simp [-getElem?_pos, List.getElem?_cons_zero, List.getElem?_cons_succ, g0, g1, g5, gnb, gR, hL, hx', hi, e0, w0, w1, w2, w3, w4, e5]
    refine ih _ ?_
    simp [-getElem?_pos, List.getElem?_cons_zero, List.getElem?_cons_succ, g0, g1, g5, gnb, gR, hL, hx', hi, e0, w0, w1, w2, w3, w4, e5, hp, hc, hw]
    first
      | exact ⟨by omega, by omega, mpart_setv hx rfl⟩
      | exact ⟨by omega, mpart_setv hx rfl⟩
      | exact mpart_setv hx rfl
  · rintro c' t ⟨g0, g1, g5, gnb, gnt, gR⟩
    simp only [pre_all] at g1
    simp [g0, g1, g5, gnb, gR, mpart_all, cnt]
noncomputable def c71 := ctrG (fun a : List Obj × Int => 0 ≤ a.2 ∧ a.2 + cnt cObj a.1 ≤ 4611686018427387904 ∧ (a.1.length ≤ 4611686018427387904 ∧ ∀ x ∈ a.1, x.params.length ≤ 4611686018427387904)) (fun a => ([.inl 6 (a.1.map Obj.o), .int .i64 a.2], [])) (fun a => ⟨false, .int .i64 (a.2 + cnt cObj a.1), [.inl 6 ((mkL mkObj cObj a.2 a.1).map Obj.o)], []⟩)
theorem c71_eq (xs : List Obj) (k : Int) (h0 : 0 ≤ k) (h1 : k + cnt cObj xs ≤ 4611686018427387904) (h2 : xs.length ≤ 4611686018427387904 ∧ ∀ x ∈ xs, x.params.length ≤ 4611686018427387904) : c71 [.inl 6 (xs.map Obj.o), .int .i64 k] [] = some ⟨false, .int .i64 (k + cnt cObj xs), [.inl 6 ((mkL mkObj cObj k xs).map Obj.o)], []⟩ := ctrG_eq (injG Obj.o_inj _) (xs, k) ⟨h0, h1, h2⟩ rfl
theorem c71_ok : GOK Tryz.prog (71, [true], c71) := ctrG_ok fun a h => f71_ok a.1 a.2 h.1 h.2.1 h.2.2

end Go.TM.Tryz
end
section
set_option maxHeartbeats 2000000
set_option maxRecDepth 10000
set_option linter.unusedSimpArgs false
set_option linter.unusedVariables false
namespace Go.TM.Tryz
open Go Go.TM Go.Proofs
theorem f51_ok (xs : List ByteArray) (k : Int) (h0 : 0 ≤ k) (h1 : k + cnt cStr xs ≤ 4611686018427387904) (h2 : xs.length ≤ 4611686018427387904) : FunOK Tryz.prog 51 [.lst ((mkL mkStr cStr k xs).map V.str), .int .i64 k] false (.int .i64 (k + cnt cStr xs)) := by
  refine fun_ok (mkE_ok zmix (cl := [(88, c88)]) (gl := []) [] c88_ok trivial) Tryz.func51 (by kernel_rfl) ?_
  refine FunW_run _ _ rfl rfl ?_
  have hlen := h2
  simp
  refine lp_list xs (fun i t => t.e 0 = .lst ((mkL mkStr cStr k xs).map V.str) ∧ t.e 1 = .int .i64 (k + pre cStr xs i) ∧ t.e 5 = .int .i64 i) ?_ ?_ ?_
  · simp [pre_zero]
  · rintro c' L hL i t x hx hi ih ⟨g0, g1, g5⟩
    have hw : IntKind.i64.wrap ((i : Int) + 1) = ((i + 1 : Nat) : Int) := wrap64 (by omega) (by omega)
    have hp := pre_succ cStr hx
    have hp2 := pre_le cStr xs (i + 1)
    have hc : cStr x = 1 := rfl
    have hcnt : (xs.map cStr).sum = cnt cStr xs := rfl
    have e0 := c88_eq (k + (pre cStr xs i : Nat)) (by omega)
    have w0 : IntKind.i64.wrap (k + (pre cStr xs i : Nat) + 1) = k + (pre cStr xs i : Nat) + 1 := wrap64 (by omega) (by omega)
    have hx' := mkL_get mkStr cStr k hx
    simp [-getElem?_pos, List.getElem?_cons_zero, List.getElem?_cons_succ, g0, g1, g5, hL, hx', hi, mkStr, e0, w0]
    refine ih _ ?_
    simp [-getElem?_pos, List.getElem?_cons_zero, List.getElem?_cons_succ, g0, g1, g5, hL, hx', hi, e0, w0, hp, hc, hw] <;> omega
  · rintro c' t ⟨g0, g1, g5⟩
    simp only [pre_all] at g1
    simp [g0, g1, g5, cnt]
noncomputable def c51 := ctrH mkStr cStr V.str (fun xs k => 0 ≤ k ∧ k + cnt cStr xs ≤ 4611686018427387904 ∧ (xs.length ≤ 4611686018427387904))
theorem c51_eq (xs : List ByteArray) (k : Int) (h0 : 0 ≤ k) (h1 : k + cnt cStr xs ≤ 4611686018427387904) (h2 : xs.length ≤ 4611686018427387904) : c51 [.lst ((mkL mkStr cStr k xs).map V.str), .int .i64 k] = some (false, .int .i64 (k + cnt cStr xs)) := ctrH_eq cStr_mk str_inj xs k ⟨h0, h1, h2⟩
theorem c51_ok : COK Tryz.prog (51, c51) := ctrH_ok cStr_mk fun xs k h => f51_ok xs k h.1 h.2.1 h.2.2

theorem f138_ok (xs : List Fld) (k : Int) (h0 : 0 ≤ k) (h1 : k + cnt cFld xs ≤ 4611686018427387904) (h2 : xs.length ≤ 4611686018427387904) : FunOK Tryz.prog 138 [.lst ((mkL mkFld cFld k xs).map Fld.v), .int .i64 k] false (.int .i64 (k + cnt cFld xs)) := by
  refine fun_ok (mkE_ok zmix (cl := [(88, c88)]) (gl := []) [] c88_ok trivial) Tryz.func138 (by kernel_rfl) ?_
  refine FunW_run _ _ rfl rfl ?_
  have hlen := h2
  simp
  refine lp_list xs (fun i t => t.e 0 = .lst ((mkL mkFld cFld k xs).map Fld.v) ∧ t.e 1 = .int .i64 (k + pre cFld xs i) ∧ t.e 5 = .int .i64 i) ?_ ?_ ?_
  · simp [pre_zero]
  · rintro c' L hL i t x hx hi ih ⟨g0, g1, g5⟩
    have hw : IntKind.i64.wrap ((i : Int) + 1) = ((i + 1 : Nat) : Int) := wrap64 (by omega) (by omega)
    have hp := pre_succ cFld hx
    have hp2 := pre_le cFld xs (i + 1)
    have hc : cFld x = 3 := rfl
    have hcnt : (xs.map cFld).sum = cnt cFld xs := rfl
    have e0 := c88_eq (k + (pre cFld xs i : Nat)) (by omega)
    have w0 : IntKind.i64.wrap (k + (pre cFld xs i : Nat) + 1) = k + (pre cFld xs i : Nat) + 1 := wrap64 (by omega) (by omega)
    have w1 : IntKind.i64.wrap (k + (pre cFld xs i : Nat) + 1 + 1) = k + (pre cFld xs i : Nat) + 1 + 1 := wrap64 (by omega) (by omega)
    have w2 : IntKind.i64.wrap (k + (pre cFld xs i : Nat) + 1 + 1 + 1) = k + (pre cFld xs i : Nat) + 1 + 1 + 1 := wrap64 (by omega) (by omega)
    have hx' := mkL_get mkFld cFld k hx
    simp [-getElem?_pos, List.getElem?_cons_zero, List.getElem?_cons_succ, g0, g1, g5, hL, hx', hi, mkFld, e0, w0, w1, w2]
    refine ih _ ?_
    simp [-getElem?_pos, List.getElem?_cons_zero, List.getElem?_cons_succ, g0, g1, g5, hL, hx', hi, e0, w0, w1, w2, hp, hc, hw] <;> omega
  · rintro c' t ⟨g0, g1, g5⟩
    simp only [pre_all] at g1
    simp [g0, g1, g5, cnt]
noncomputable def c138 := ctrH mkFld cFld Fld.v (fun xs k => 0 ≤ k ∧ k + cnt cFld xs ≤ 4611686018427387904 ∧ (xs.length ≤ 4611686018427387904))
theorem c138_eq (xs : List Fld) (k : Int) (h0 : 0 ≤ k) (h1 : k + cnt cFld xs ≤ 4611686018427387904) (h2 : xs.length ≤ 4611686018427387904) : c138 [.lst ((mkL mkFld cFld k xs).map Fld.v), .int .i64 k] = some (false, .int .i64 (k + cnt cFld xs)) := ctrH_eq cFld_mk Fld.v_inj xs k ⟨h0, h1, h2⟩
theorem c138_ok : COK Tryz.prog (138, c138) := ctrH_ok cFld_mk fun xs k h => f138_ok xs k h.1 h.2.1 h.2.2

theorem f139_ok (xs : List Par) (k : Int) (h0 : 0 ≤ k) (h1 : k + cnt cPar xs ≤ 4611686018427387904) (h2 : xs.length ≤ 4611686018427387904) : FunOK Tryz.prog 139 [.lst ((mkL mkPar cPar k xs).map Par.v), .int .i64 k] false (.int .i64 (k + cnt cPar xs)) := by
  refine fun_ok (mkE_ok zmix (cl := [(88, c88)]) (gl := []) [] c88_ok trivial) Tryz.func139 (by kernel_rfl) ?_
  refine FunW_run _ _ rfl rfl ?_
  have hlen := h2
  simp
  refine lp_list xs (fun i t => t.e 0 = .lst ((mkL mkPar cPar k xs).map Par.v) ∧ t.e 1 = .int .i64 (k + pre cPar xs i) ∧ t.e 5 = .int .i64 i) ?_ ?_ ?_
  · simp [pre_zero]
  · rintro c' L hL i t x hx hi ih ⟨g0, g1, g5⟩
    have hw : IntKind.i64.wrap ((i : Int) + 1) = ((i + 1 : Nat) : Int) := wrap64 (by omega) (by omega)
    have hp := pre_succ cPar hx
    have hp2 := pre_le cPar xs (i + 1)
    have hc : cPar x = 3 := rfl
    have hcnt : (xs.map cPar).sum = cnt cPar xs := rfl
    have e0 := c88_eq (k + (pre cPar xs i : Nat)) (by omega)
    have w0 : IntKind.i64.wrap (k + (pre cPar xs i : Nat) + 1) = k + (pre cPar xs i : Nat) + 1 := wrap64 (by omega) (by omega)
    have w1 : IntKind.i64.wrap (k + (pre cPar xs i : Nat) + 1 + 1) = k + (pre cPar xs i : Nat) + 1 + 1 := wrap64 (by omega) (by omega)
    have w2 : IntKind.i64.wrap (k + (pre cPar xs i : Nat) + 1 + 1 + 1) = k + (pre cPar xs i : Nat) + 1 + 1 + 1 := wrap64 (by omega) (by omega)
    have hx' := mkL_get mkPar cPar k hx
    simp [-getElem?_pos, List.getElem?_cons_zero, List.getElem?_cons_succ, g0, g1, g5, hL, hx', hi, mkPar, e0, w0, w1, w2]
    refine ih _ ?_
    simp [-getElem?_pos, List.getElem?_cons_zero, List.getElem?_cons_succ, g0, g1, g5, hL, hx', hi, e0, w0, w1, w2, hp, hc, hw] <;> omega
  · rintro c' t ⟨g0, g1, g5⟩
    simp only [pre_all] at g1
    simp [g0, g1, g5, cnt]
noncomputable def c139 := ctrH mkPar cPar Par.v (fun xs k => 0 ≤ k ∧ k + cnt cPar xs ≤ 4611686018427387904 ∧ (xs.length ≤ 4611686018427387904))
theorem c139_eq (xs : List Par) (k : Int) (h0 : 0 ≤ k) (h1 : k + cnt cPar xs ≤ 4611686018427387904) (h2 : xs.length ≤ 4611686018427387904) : c139 [.lst ((mkL mkPar cPar k xs).map Par.v), .int .i64 k] = some (false, .int .i64 (k + cnt cPar xs)) := ctrH_eq cPar_mk Par.v_inj xs k ⟨h0, h1, h2⟩
theorem c139_ok : COK Tryz.prog (139, c139) := ctrH_ok cPar_mk fun xs k h => f139_ok xs k h.1 h.2.1 h.2.2

theorem f46_ok (xs : List Use) (k : Int) (h0 : 0 ≤ k) (h1 : k + cnt cUse xs ≤ 4611686018427387904) (h2 : xs.length ≤ 4611686018427387904) : FunOK Tryz.prog 46 [.lst ((mkL mkUse cUse k xs).map Use.v), .int .i64 k] false (.int .i64 (k + cnt cUse xs)) := by
  refine fun_ok (mkE_ok zmix (cl := [(88, c88)]) (gl := []) [] c88_ok trivial) Tryz.func46 (by kernel_rfl) ?_
  refine FunW_run _ _ rfl rfl ?_
  have hlen := h2
  simp
  refine lp_list xs (fun i t => t.e 0 = .lst ((mkL mkUse cUse k xs).map Use.v) ∧ t.e 1 = .int .i64 (k + pre cUse xs i) ∧ t.e 5 = .int .i64 i) ?_ ?_ ?_
  · simp [pre_zero]
  · rintro c' L hL i t x hx hi ih ⟨g0, g1, g5⟩
    have hw : IntKind.i64.wrap ((i : Int) + 1) = ((i + 1 : Nat) : Int) := wrap64 (by omega) (by omega)
    have hp := pre_succ cUse hx
    have hp2 := pre_le cUse xs (i + 1)
    have hc : cUse x = 2 := rfl
    have hcnt : (xs.map cUse).sum = cnt cUse xs := rfl
    have e0 := c88_eq (k + (pre cUse xs i : Nat)) (by omega)
    have w0 : IntKind.i64.wrap (k + (pre cUse xs i : Nat) + 1) = k + (pre cUse xs i : Nat) + 1 := wrap64 (by omega) (by omega)
    have e1 := c88_eq (k + (pre cUse xs i : Nat) + 1) (by omega)
    have w1 : IntKind.i64.wrap (k + (pre cUse xs i : Nat) + 1 + 1) = k + (pre cUse xs i : Nat) + 1 + 1 := wrap64 (by omega) (by omega)
    have hx' := mkL_get mkUse cUse k hx
    simp [-getElem?_pos, List.getElem?_cons_zero, List.getElem?_cons_succ, g0, g1, g5, hL, hx', hi, mkUse, e0, w0, e1, w1]
    refine ih _ ?_
    simp [-getElem?_pos, List.getElem?_cons_zero, List.getElem?_cons_succ, g0, g1, g5, hL, hx', hi, e0, w0, e1, w1, hp, hc, hw] <;> omega
  · rintro c' t ⟨g0, g1, g5⟩
    simp only [pre_all] at g1
    simp [g0, g1, g5, cnt]
noncomputable def c46 := ctrH mkUse cUse Use.v (fun xs k => 0 ≤ k ∧ k + cnt cUse xs ≤ 4611686018427387904 ∧ (xs.length ≤ 4611686018427387904))
theorem c46_eq (xs : List Use) (k : Int) (h0 : 0 ≤ k) (h1 : k + cnt cUse xs ≤ 4611686018427387904) (h2 : xs.length ≤ 4611686018427387904) : c46 [.lst ((mkL mkUse cUse k xs).map Use.v), .int .i64 k] = some (false, .int .i64 (k + cnt cUse xs)) := ctrH_eq cUse_mk Use.v_inj xs k ⟨h0, h1, h2⟩
theorem c46_ok : COK Tryz.prog (46, c46) := ctrH_ok cUse_mk fun xs k h => f46_ok xs k h.1 h.2.1 h.2.2

theorem f72_ok (xs : List Ty) (k : Int) (h0 : 0 ≤ k) (h1 : k + cnt cTy xs ≤ 4611686018427387904) (h2 : xs.length ≤ 4611686018427387904 ∧ ∀ x ∈ xs, x.fields.length ≤ 4611686018427387904) : FunOK Tryz.prog 72 [.lst ((mkL mkTy cTy k xs).map Ty.v), .int .i64 k] false (.int .i64 (k + cnt cTy xs)) := by
  refine fun_ok (mkE_ok zmix (cl := [(88, c88), (138, c138)]) (gl := []) [] ⟨c88_ok, c138_ok⟩ trivial) Tryz.func72 (by kernel_rfl) ?_
  refine FunW_run _ _ rfl rfl ?_
  have hlen := h2.1
  simp
  refine lp_list xs (fun i t => t.e 0 = .lst ((mkL mkTy cTy k xs).map Ty.v) ∧ t.e 1 = .int .i64 (k + pre cTy xs i) ∧ t.e 5 = .int .i64 i) ?_ ?_ ?_
  · simp [pre_zero]
  · rintro c' L hL i t x hx hi ih ⟨g0, g1, g5⟩
    have hw : IntKind.i64.wrap ((i : Int) + 1) = ((i + 1 : Nat) : Int) := wrap64 (by omega) (by omega)
    have hp := pre_succ cTy hx
    have hp2 := pre_le cTy xs (i + 1)
    have hc : cTy x = 5+cnt cFld x.fields := rfl
    have hcnt : (xs.map cTy).sum = cnt cTy xs := rfl
    have hlen3 : x.fields.length ≤ 4611686018427387904 := h2.2 x (List.mem_of_getElem? hx)
    have w0 : IntKind.i64.wrap (k + (pre cTy xs i : Nat) + 1) = k + (pre cTy xs i : Nat) + 1 := wrap64 (by omega) (by omega)
    have w1 : IntKind.i64.wrap (k + (pre cTy xs i : Nat) + 1 + 1) = k + (pre cTy xs i : Nat) + 1 + 1 := wrap64 (by omega) (by omega)
    have w2 : IntKind.i64.wrap (k + (pre cTy xs i : Nat) + 1 + 1 + 1) = k + (pre cTy xs i : Nat) + 1 + 1 + 1 := wrap64 (by omega) (by omega)
    have e3 := c138_eq x.fields (k + (pre cTy xs i : Nat) + 1 + 1 + 1) (by omega) (by omega) hlen3
    have n3 : ¬ k + (pre cTy xs i : Nat) + 1 + 1 + 1 + (cnt cFld x.fields : Nat) < 0 := by omega
    have e4 := c88_eq (k + (pre cTy xs i : Nat) + 1 + 1 + 1 + (cnt cFld x.fields : Nat)) (by omega)
    have w4 : IntKind.i64.wrap (k + (pre cTy xs i : Nat) + 1 + 1 + 1 + (cnt cFld x.fields : Nat) + 1) = k + (pre cTy xs i : Nat) + 1 + 1 + 1 + (cnt cFld x.fields : Nat) + 1 := wrap64 (by omega) (by omega)
    have e5 := c88_eq (k + (pre cTy xs i : Nat) + 1 + 1 + 1 + (cnt cFld x.fields : Nat) + 1) (by omega)
    have w5 : IntKind.i64.wrap (k + (pre cTy xs i : Nat) + 1 + 1 + 1 + (cnt cFld x.fields : Nat) + 1 + 1) = k + (pre cTy xs i : Nat) + 1 + 1 + 1 + (cnt cFld x.fields : Nat) + 1 + 1 := wrap64 (by omega) (by omega)
    have hx' := mkL_get mkTy cTy k hx
    simp [-getElem?_pos, List.getElem?_cons_zero, List.getElem?_cons_succ, g0, g1, g5, hL, hx', hi, mkTy, w0, w1, w2, e3, n3, e4, w4, e5, w5]
    refine ih _ ?_
    simp [-getElem?_pos, List.getElem?_cons_zero, List.getElem?_cons_succ, g0, g1, g5, hL, hx', hi, w0, w1, w2, e3, n3, e4, w4, e5, w5, hp, hc, hw] <;> omega
  · rintro c' t ⟨g0, g1, g5⟩
    simp only [pre_all] at g1
    simp [g0, g1, g5, cnt]
noncomputable def c72 := ctrH mkTy cTy Ty.v (fun xs k => 0 ≤ k ∧ k + cnt cTy xs ≤ 4611686018427387904 ∧ (xs.length ≤ 4611686018427387904 ∧ ∀ x ∈ xs, x.fields.length ≤ 4611686018427387904))
theorem c72_eq (xs : List Ty) (k : Int) (h0 : 0 ≤ k) (h1 : k + cnt cTy xs ≤ 4611686018427387904) (h2 : xs.length ≤ 4611686018427387904 ∧ ∀ x ∈ xs, x.fields.length ≤ 4611686018427387904) : c72 [.lst ((mkL mkTy cTy k xs).map Ty.v), .int .i64 k] = some (false, .int .i64 (k + cnt cTy xs)) := ctrH_eq cTy_mk Ty.v_inj xs k ⟨h0, h1, h2⟩
theorem c72_ok : COK Tryz.prog (72, c72) := ctrH_ok cTy_mk fun xs k h => f72_ok xs k h.1 h.2.1 h.2.2

theorem f73_ok (xs : List Obj) (k : Int) (h0 : 0 ≤ k) (h1 : k + cnt cObj xs ≤ 4611686018427387904) (h2 : xs.length ≤ 4611686018427387904 ∧ ∀ x ∈ xs, x.params.length ≤ 4611686018427387904) : FunOK Tryz.prog 73 [.lst ((mkL mkObj cObj k xs).map Obj.v), .int .i64 k] false (.int .i64 (k + cnt cObj xs)) := by
  refine fun_ok (mkE_ok zmix (cl := [(88, c88), (139, c139)]) (gl := []) [] ⟨c88_ok, c139_ok⟩ trivial) Tryz.func73 (by kernel_rfl) ?_
  refine FunW_run _ _ rfl rfl ?_
  have hlen := h2.1
  simp
  refine lp_list xs (fun i t => t.e 0 = .lst ((mkL mkObj cObj k xs).map Obj.v) ∧ t.e 1 = .int .i64 (k + pre cObj xs i) ∧ t.e 5 = .int .i64 i) ?_ ?_ ?_
  · simp [pre_zero]
  · rintro c' L hL i t x hx hi ih ⟨g0, g1, g5⟩
    have hw : IntKind.i64.wrap ((i : Int) + 1) = ((i + 1 : Nat) : Int) := wrap64 (by omega) (by omega)
    have hp := pre_succ cObj hx
    have hp2 := pre_le cObj xs (i + 1)
    have hc : cObj x = 5+cnt cPar x.params := rfl
    have hcnt : (xs.map cObj).sum = cnt cObj xs := rfl
    have hlen5 : x.params.length ≤ 4611686018427387904 := h2.2 x (List.mem_of_getElem? hx)
    have e0 := c88_eq (k + (pre cObj xs i : Nat)) (by omega)
    have w0 : IntKind.i64.wrap (k + (pre cObj xs i : Nat) + 1) = k + (pre cObj xs i : Nat) + 1 := wrap64 (by omega) (by omega)
    have w1 : IntKind.i64.wrap (k + (pre cObj xs i : Nat) + 1 + 1) = k + (pre cObj xs i : Nat) + 1 + 1 := wrap64 (by omega) (by omega)
    have w2 : IntKind.i64.wrap (k + (pre cObj xs i : Nat) + 1 + 1 + 1) = k + (pre cObj xs i : Nat) + 1 + 1 + 1 := wrap64 (by omega) (by omega)
    have w3 : IntKind.i64.wrap (k + (pre cObj xs i : Nat) + 1 + 1 + 1 + 1) = k + (pre cObj xs i : Nat) + 1 + 1 + 1 + 1 := wrap64 (by omega) (by omega)
    have w4 : IntKind.i64.wrap (k + (pre cObj xs i : Nat) + 1 + 1 + 1 + 1 + 1) = k + (pre cObj xs i : Nat) + 1 + 1 + 1 + 1 + 1 := wrap64 (by omega) (by omega)
    have e5 := c139_eq x.params (k + (pre cObj xs i : Nat) + 1 + 1 + 1 + 1 + 1) (by omega) (by omega) hlen5
    have n5 : ¬ k + (pre cObj xs i : Nat) + 1 + 1 + 1 + 1 + 1 + (cnt cPar x.params : Nat) < 0 := by omega
    have hx' := mkL_get mkObj cObj k hx
    simp [-getElem?_pos, List.getElem?_cons_zero, List.getElem?_cons_succ, g0, g1, g5, hL, hx', hi, mkObj, e0, w0, w1, w2, w3, w4, e5, n5]
    refine ih _ ?_
    simp [-getElem?_pos, List.getElem?_cons_zero, List.getElem?_cons_succ, g0, g1, g5, hL, hx', hi, e0, w0, w1, w2, w3, w4, e5, n5, hp, hc, hw] <;> omega
  · rintro c' t ⟨g0, g1, g5⟩
    simp only [pre_all] at g1
    simp [g0, g1, g5, cnt]
noncomputable def c73 := ctrH mkObj cObj Obj.v (fun xs k => 0 ≤ k ∧ k + cnt cObj xs ≤ 4611686018427387904 ∧ (xs.length ≤ 4611686018427387904 ∧ ∀ x ∈ xs, x.params.length ≤ 4611686018427387904))
theorem c73_eq (xs : List Obj) (k : Int) (h0 : 0 ≤ k) (h1 : k + cnt cObj xs ≤ 4611686018427387904) (h2 : xs.length ≤ 4611686018427387904 ∧ ∀ x ∈ xs, x.params.length ≤ 4611686018427387904) : c73 [.lst ((mkL mkObj cObj k xs).map Obj.v), .int .i64 k] = some (false, .int .i64 (k + cnt cObj xs)) := ctrH_eq cObj_mk Obj.v_inj xs k ⟨h0, h1, h2⟩
theorem c73_ok : COK Tryz.prog (73, c73) := ctrH_ok cObj_mk fun xs k h => f73_ok xs k h.1 h.2.1 h.2.2

theorem f17_ok (x : Scp) (k : Int) (h0 : 0 ≤ k) (h1 : k + (cnt cStr x.imports : Nat) + (cnt cTy x.types : Nat) + (cnt cObj x.objects : Nat) + (cnt cUse x.uses : Nat) ≤ 4611686018427387904) (h2 : x.imports.length ≤ 4611686018427387904 ∧ (x.types.length ≤ 4611686018427387904 ∧ ∀ y ∈ x.types, y.fields.length ≤ 4611686018427387904) ∧ (x.objects.length ≤ 4611686018427387904 ∧ ∀ y ∈ x.objects, y.params.length ≤ 4611686018427387904) ∧ x.uses.length ≤ 4611686018427387904) : GenOK Tryz.prog 17 [x.o, .int .i64 k] [] ⟨false, .int .i64 (k + (cnt cStr x.imports : Nat) + (cnt cTy x.types : Nat) + (cnt cObj x.objects : Nat) + (cnt cUse x.uses : Nat)), [.inl 1 ((mkL mkStr cStr (k) x.imports).map V.str), .inl 6 ((mkL mkTy cTy (k + (cnt cStr x.imports : Nat)) x.types).map Ty.o), .inl 6 ((mkL mkObj cObj (k + (cnt cStr x.imports : Nat) + (cnt cTy x.types : Nat)) x.objects).map Obj.o), .inl 2 ((mkL mkUse cUse (k + (cnt cStr x.imports : Nat) + (cnt cTy x.types : Nat) + (cnt cObj x.objects : Nat)) x.uses).map Use.v)], []⟩ := by
  refine fun_okG (mkE_ok zmix (cl := []) (gl := [(45, [true], c45), (50, [true], c50), (70, [true], c70), (71, [true], c71)]) [] trivial ⟨c45_ok, c50_ok, c70_ok, c71_ok⟩) Tryz.func17 (by kernel_rfl) ?_
  refine FunG_run _ _ rfl rfl ?_
  have e0 := c50_eq x.imports (k) (by omega) (by omega) h2.1
  have e1 := c70_eq x.types (k + (cnt cStr x.imports : Nat)) (by omega) (by omega) h2.2.1
  have e2 := c71_eq x.objects (k + (cnt cStr x.imports : Nat) + (cnt cTy x.types : Nat)) (by omega) (by omega) h2.2.2.1
  have e3 := c45_eq x.uses (k + (cnt cStr x.imports : Nat) + (cnt cTy x.types : Nat) + (cnt cObj x.objects : Nat)) (by omega) (by omega) h2.2.2.2
  simp [e0, e1, e2, e3]
noncomputable def c17 := ctrG (fun a : Scp × Int => match a with | (x, k) => 0 ≤ k ∧ k + (cnt cStr x.imports : Nat) + (cnt cTy x.types : Nat) + (cnt cObj x.objects : Nat) + (cnt cUse x.uses : Nat) ≤ 4611686018427387904 ∧ x.imports.length ≤ 4611686018427387904 ∧ (x.types.length ≤ 4611686018427387904 ∧ ∀ y ∈ x.types, y.fields.length ≤ 4611686018427387904) ∧ (x.objects.length ≤ 4611686018427387904 ∧ ∀ y ∈ x.objects, y.params.length ≤ 4611686018427387904) ∧ x.uses.length ≤ 4611686018427387904) (fun a => ([a.1.o, .int .i64 a.2], [])) (fun a => match a with | (x, k) => ⟨false, .int .i64 (k + (cnt cStr x.imports : Nat) + (cnt cTy x.types : Nat) + (cnt cObj x.objects : Nat) + (cnt cUse x.uses : Nat)), [.inl 1 ((mkL mkStr cStr (k) x.imports).map V.str), .inl 6 ((mkL mkTy cTy (k + (cnt cStr x.imports : Nat)) x.types).map Ty.o), .inl 6 ((mkL mkObj cObj (k + (cnt cStr x.imports : Nat) + (cnt cTy x.types : Nat)) x.objects).map Obj.o), .inl 2 ((mkL mkUse cUse (k + (cnt cStr x.imports : Nat) + (cnt cTy x.types : Nat) + (cnt cObj x.objects : Nat)) x.uses).map Use.v)], []⟩)
theorem c17_eq (x : Scp) (k : Int) (h0 : 0 ≤ k) (h1 : k + (cnt cStr x.imports : Nat) + (cnt cTy x.types : Nat) + (cnt cObj x.objects : Nat) + (cnt cUse x.uses : Nat) ≤ 4611686018427387904) (h2 : x.imports.length ≤ 4611686018427387904 ∧ (x.types.length ≤ 4611686018427387904 ∧ ∀ y ∈ x.types, y.fields.length ≤ 4611686018427387904) ∧ (x.objects.length ≤ 4611686018427387904 ∧ ∀ y ∈ x.objects, y.params.length ≤ 4611686018427387904) ∧ x.uses.length ≤ 4611686018427387904) : c17 [x.o, .int .i64 k] [] = some ⟨false, .int .i64 (k + (cnt cStr x.imports : Nat) + (cnt cTy x.types : Nat) + (cnt cObj x.objects : Nat) + (cnt cUse x.uses : Nat)), [.inl 1 ((mkL mkStr cStr (k) x.imports).map V.str), .inl 6 ((mkL mkTy cTy (k + (cnt cStr x.imports : Nat)) x.types).map Ty.o), .inl 6 ((mkL mkObj cObj (k + (cnt cStr x.imports : Nat) + (cnt cTy x.types : Nat)) x.objects).map Obj.o), .inl 2 ((mkL mkUse cUse (k + (cnt cStr x.imports : Nat) + (cnt cTy x.types : Nat) + (cnt cObj x.objects : Nat)) x.uses).map Use.v)], []⟩ := ctrG_eq (injG1 Scp.o_inj _) (x, k) ⟨h0, h1, h2⟩ rfl
theorem c17_ok : GOK Tryz.prog (17, [true], c17) := ctrG_ok fun a h => f17_ok a.1 a.2 h.1 h.2.1 h.2.2

theorem f18_ok (x : Scp) (k : Int) (h0 : 0 ≤ k) (h1 : k + (cnt cStr x.imports : Nat) + (cnt cTy x.types : Nat) + (cnt cObj x.objects : Nat) + (cnt cUse x.uses : Nat) ≤ 4611686018427387904) (h2 : x.imports.length ≤ 4611686018427387904 ∧ (x.types.length ≤ 4611686018427387904 ∧ ∀ y ∈ x.types, y.fields.length ≤ 4611686018427387904) ∧ (x.objects.length ≤ 4611686018427387904 ∧ ∀ y ∈ x.objects, y.params.length ≤ 4611686018427387904) ∧ x.uses.length ≤ 4611686018427387904) : FunOK Tryz.prog 18 [(mkScp k x).v, .int .i64 k] false (.int .i64 (k + (cnt cStr x.imports : Nat) + (cnt cTy x.types : Nat) + (cnt cObj x.objects : Nat) + (cnt cUse x.uses : Nat))) := by
  refine fun_ok (mkE_ok zmix (cl := [(46, c46), (51, c51), (72, c72), (73, c73)]) (gl := []) [] ⟨c46_ok, c51_ok, c72_ok, c73_ok⟩ trivial) Tryz.func18 (by kernel_rfl) ?_
  refine FunW_run _ _ rfl rfl ?_
  have e0 := c51_eq x.imports (k) (by omega) (by omega) h2.1
  have n0 : ¬ k + (cnt cStr x.imports : Nat) < 0 := by omega
  have e1 := c72_eq x.types (k + (cnt cStr x.imports : Nat)) (by omega) (by omega) h2.2.1
  have n1 : ¬ k + (cnt cStr x.imports : Nat) + (cnt cTy x.types : Nat) < 0 := by omega
  have e2 := c73_eq x.objects (k + (cnt cStr x.imports : Nat) + (cnt cTy x.types : Nat)) (by omega) (by omega) h2.2.2.1
  have n2 : ¬ k + (cnt cStr x.imports : Nat) + (cnt cTy x.types : Nat) + (cnt cObj x.objects : Nat) < 0 := by omega
  have e3 := c46_eq x.uses (k + (cnt cStr x.imports : Nat) + (cnt cTy x.types : Nat) + (cnt cObj x.objects : Nat)) (by omega) (by omega) h2.2.2.2
  have n3 : ¬ k + (cnt cStr x.imports : Nat) + (cnt cTy x.types : Nat) + (cnt cObj x.objects : Nat) + (cnt cUse x.uses : Nat) < 0 := by omega
  simp [mkScp, e0, n0, e1, n1, e2, n2, e3, n3]
noncomputable def c18 := ctr (fun a : Scp × Int => ∃ x : Scp, a.1 = mkScp a.2 x ∧ ∃ k, a.2 = k ∧ 0 ≤ k ∧ k + (cnt cStr x.imports : Nat) + (cnt cTy x.types : Nat) + (cnt cObj x.objects : Nat) + (cnt cUse x.uses : Nat) ≤ 4611686018427387904 ∧ x.imports.length ≤ 4611686018427387904 ∧ (x.types.length ≤ 4611686018427387904 ∧ ∀ y ∈ x.types, y.fields.length ≤ 4611686018427387904) ∧ (x.objects.length ≤ 4611686018427387904 ∧ ∀ y ∈ x.objects, y.params.length ≤ 4611686018427387904) ∧ x.uses.length ≤ 4611686018427387904) (fun a => [a.1.v, .int .i64 a.2]) (fun a => (false, .int .i64 (a.2 + (cScp a.1 : Nat))))
theorem inj18 (out : Scp × Int → Bool × V) : ∀ a b : Scp × Int, [a.1.v, V.int .i64 a.2] = [b.1.v, V.int .i64 b.2] → out a = out b := by
  rintro ⟨a, i⟩ ⟨b, j⟩ h
  simp only [List.cons.injEq, and_true, V.int.injEq, true_and] at h
  rw [Scp.v_inj h.1, h.2]
theorem c18_eq (x : Scp) (k : Int) (h0 : 0 ≤ k) (h1 : k + (cnt cStr x.imports : Nat) + (cnt cTy x.types : Nat) + (cnt cObj x.objects : Nat) + (cnt cUse x.uses : Nat) ≤ 4611686018427387904) (h2 : x.imports.length ≤ 4611686018427387904 ∧ (x.types.length ≤ 4611686018427387904 ∧ ∀ y ∈ x.types, y.fields.length ≤ 4611686018427387904) ∧ (x.objects.length ≤ 4611686018427387904 ∧ ∀ y ∈ x.objects, y.params.length ≤ 4611686018427387904) ∧ x.uses.length ≤ 4611686018427387904) : c18 [(mkScp k x).v, .int .i64 k] = some (false, .int .i64 (k + (cnt cStr x.imports : Nat) + (cnt cTy x.types : Nat) + (cnt cObj x.objects : Nat) + (cnt cUse x.uses : Nat))) := by
  have h := ctr_eq (p := fun a : Scp × Int => ∃ x : Scp, a.1 = mkScp a.2 x ∧ ∃ k, a.2 = k ∧ 0 ≤ k ∧ k + (cnt cStr x.imports : Nat) + (cnt cTy x.types : Nat) + (cnt cObj x.objects : Nat) + (cnt cUse x.uses : Nat) ≤ 4611686018427387904 ∧ x.imports.length ≤ 4611686018427387904 ∧ (x.types.length ≤ 4611686018427387904 ∧ ∀ y ∈ x.types, y.fields.length ≤ 4611686018427387904) ∧ (x.objects.length ≤ 4611686018427387904 ∧ ∀ y ∈ x.objects, y.params.length ≤ 4611686018427387904) ∧ x.uses.length ≤ 4611686018427387904) (enc := fun a => [a.1.v, .int .i64 a.2]) (out := fun a => (false, .int .i64 (a.2 + (cScp a.1 : Nat)))) (inj18 _) (mkScp k x, k) ⟨x, rfl, k, rfl, h0, h1, h2⟩ rfl
  have e : (k + (cnt cStr x.imports : Nat) + (cnt cTy x.types : Nat) + (cnt cObj x.objects : Nat) + (cnt cUse x.uses : Nat) : Int) = k + (cScp x : Nat) := by simp only [cScp]; omega
  rw [e, ← cScp_mk k x]
  exact h
theorem c18_ok : COK Tryz.prog (18, c18) := ctr_ok fun a h => by
  obtain ⟨z, k⟩ := a
  obtain ⟨x, e, k', e2, h0, h1, h2⟩ := h
  simp only at e e2
  subst e
  subst e2
  have e : (k + (cnt cStr x.imports : Nat) + (cnt cTy x.types : Nat) + (cnt cObj x.objects : Nat) + (cnt cUse x.uses : Nat) : Int) = k + (cScp x : Nat) := by simp only [cScp]; omega
  have := f18_ok x k h0 h1 h2
  rw [e] at this
  simp only [cScp_mk]
  exact this

end Go.TM.Tryz
end
