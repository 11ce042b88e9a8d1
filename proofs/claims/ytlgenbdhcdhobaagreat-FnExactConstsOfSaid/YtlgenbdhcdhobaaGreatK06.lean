/- A part of the proof: S0, S1, ZLay, ZL, ZM, ZN, ZO, ZP, ZQ, ZR, T2, ZS, ZU, ZV, YA, YB, YC, YD, YE, YF, YG, YH, YI, ZMark, ZHeld, ZSz, ZEq, YJ, YK, YL, B1. -/
import Derived.Test.YtlgenbdhcdhobaaGreatK05
import Derived.Shelf.Sort.Plain
import Derived.Shelf.Slices.CompactI
import Derived.Shelf.Lays
import Derived.Shelf.Lays2
import Derived.Test.YtlgenbdhcdhobaaGreatProg
import Derived.Shelf.Slices.In.SortNone
set_option linter.unusedVariables false
set_option linter.unusedSimpArgs false
section
set_option linter.unusedVariables false
set_option linter.unusedSimpArgs false
namespace Go.TM
open Go Go.Proofs Go.Sort Go.Shelf
/-! ### the library's Sort and Compact over numbers, by the shelf's contracts -/
theorem leafAt_ints {zs : List Int} {j i : Nat} {l : V} (h : leafAt (zs.map (V.int .i64)) j i = some l) : i = 0 ∧ ∃ z, zs[j]? = some z ∧ l = .int .i64 z := by
  unfold leafAt at h
  rw [List.getElem?_map] at h
  cases hz : zs[j]? with
  | none => rw [hz] at h; cases h
  | some z =>
    rw [hz] at h
    simp only [Option.map_some, Option.bind_some, leaves] at h
    cases i with
    | zero => exact ⟨rfl, z, rfl, by simpa using h.symm⟩
    | succ i => simp at h
theorem own_ints {W : World} {F B : Nat → Prop} {v : Value} {zs : List Int} (h : OwnN W F B 1 v (zs.map (V.int .i64))) (hne : zs ≠ []) :
    ∃ (b o c : Nat) (cs : Array Value) (ty : TypeId), v = .slice (some ⟨b, o, none⟩) zs.length c ∧ B b ∧ W.heap[b]? = some (.cells cs ty (0, 0)) ∧ zs.length ≤ c ∧ c ≤ maxLen ∧ cs.size = o + c ∧ ∀ j z, zs[j]? = some z → cs[o + j]? = some (.int .i64 z) := by
  generalize hx : zs.map (V.int .i64) = xs at h
  cases h with
  | nil => cases zs <;> simp at hx hne
  | row _ _ _ b o c cs ty u Bs hB hBs hd hb hn hm hcs hs hc hl hN =>
    subst hx
    refine ⟨b, o, c, cs, ty, by simp, hB, hb, by simpa using hn, hm, by simpa using hcs, fun j z hz => ?_⟩
    have e : leafAt (zs.map (V.int .i64)) j 0 = some (.int .i64 z) := by simp [leafAt, hz, leaves]
    have h1 := hc j 0 _ e
    have h2 := hl j 0 _ e (by intro z ys; simp)
    generalize u j 0 = q at h1 h2
    cases h2
    simpa using h1
theorem ints_own {W : World} {F : Nat → Prop} {zs : List Int} {b o c : Nat} {cs : Array Value} {ty : TypeId} (hb : W.heap[b]? = some (.cells cs ty (0, 0))) (hn : zs.length ≤ c) (hm : c ≤ maxLen) (hcs : cs.size = o + c) (hc : ∀ j z, zs[j]? = some z → cs[o + j]? = some (.int .i64 z)) :
    OwnN W F (fun x => x = b) 1 (.slice (some ⟨b, o, none⟩) zs.length c) (zs.map (V.int .i64)) := by
  have key := OwnN.row (W := W) (F := F) (fun x => x = b) 1 (zs.map (V.int .i64)) b o c cs ty (fun j _ => .int .i64 (zs.getD j 0)) (fun _ _ _ => False) rfl (fun _ _ _ h => h.elim) (fun _ _ _ _ _ h => h.elim) hb (by simpa using hn) hm (by simpa using hcs)
    (fun e he => by
      obtain ⟨z, _, rfl⟩ := List.mem_map.1 he
      rfl)
    (fun j i l hl => by
      obtain ⟨rfl, z, hz, rfl⟩ := leafAt_ints hl
      have := hc j z hz
      simpa [hz] using this)
    (fun j i l hl _ => by
      obtain ⟨rfl, z, hz, rfl⟩ := leafAt_ints hl
      simp only [List.getD_eq_getElem?_getD, hz, Option.getD_some]
      exact .int _ _)
    (fun j i z ys hl => by
      obtain ⟨rfl, w, hz, e⟩ := leafAt_ints hl
      cases e)
  simpa using key
theorem putRow_block {W : World} {n b o : Nat} {os : Array Go.Obj} {cs : Array Value} {ty : TypeId} {ds : Array Int} (hb : W.heap[b]? = some (.cells cs ty (0, 0))) :
    (grow (putRow (Value.int .i64) (Sort.ahead W n) b o ds) os).heap[b]? = some (.cells (putCells (Value.int .i64) o ds cs) ty (0, 0)) ∧
    (∀ x, x < W.heap.size → x ≠ b → (grow (putRow (Value.int .i64) (Sort.ahead W n) b o ds) os).heap[x]? = W.heap[x]?) ∧
    W.heap.size ≤ (grow (putRow (Value.int .i64) (Sort.ahead W n) b o ds) os).heap.size := by
  have hlt : b < W.heap.size := by
    rw [Array.getElem?_eq_some_iff] at hb
    exact hb.1
  refine ⟨?_, fun x hx hne => ?_, ?_⟩
  · simp only [grow, putRow, mapBlock, heap_ahead]
    rw [Array.getElem?_append_left (by simpa using hlt), Array.getElem?_modify, if_pos rfl, hb]
    rfl
  · simp only [grow, putRow, mapBlock, heap_ahead]
    rw [Array.getElem?_append_left (by simpa using hx), Array.getElem?_modify, if_neg (fun e => hne e.symm)]
  · simp only [grow, putRow, mapBlock, heap_ahead]
    simp
theorem putCells_get {o : Nat} {ds : Array Int} {cs : Array Value} {c : Nat} (hcs : cs.size = o + c) (hn : ds.size ≤ c) {j : Nat} {z : Int} (hz : ds.toList[j]? = some z) : (putCells (Value.int .i64) o ds cs)[o + j]? = some (.int .i64 z) := by
  have hj : j < ds.size := by
    rw [List.getElem?_eq_some_iff] at hz
    simpa using hz.1
  have hlt : o + j < cs.size := by omega
  unfold putCells
  rw [Array.getElem?_mapIdx, Array.getElem?_eq_getElem hlt]
  simp only [Option.map_some]
  rw [if_pos ⟨by omega, by omega⟩]
  have e : o + j - o = j := by omega
  rw [e, getElem!_pos ds j hj]
  rw [List.getElem?_eq_some_iff] at hz
  simp [← hz.2]
theorem putCells_size {o : Nat} {ds : Array Int} {cs : Array Value} : (putCells (Value.int .i64) o ds cs).size = cs.size := by simp [putCells]
def intsR (zs : List Int) : S := { start [.inl 1 (zs.map (V.int .i64))] [] with e := (start [.inl 1 (zs.map (V.int .i64))] []).e }
theorem start_ints (zs : List Int) : (start [.inl 1 (zs.map (V.int .i64))] []).R = fun x => if x = 0 then some ⟨1, zs.map (V.int .i64), true⟩ else none := by
  funext x
  by_cases h : x = 0 <;> simp [start, adCs, adC, adL, S.newR, S.setR, S.zero, h]
theorem sort_gen {P : Program} {f : FuncId} {zs : List Int} (hne : zs ≠ []) (hlen : zs.length < 4611686018427387904)
    (has : ∃ fn, P.funcs[f]? = some fn ∧ (fn.name == "runtime.NumGoroutine") = false ∧ fn.body.isNone = false)
    (hcall : ∀ (blk off cap : Nat) (w : World), Holds (Value.int .i64) w blk off zs.toArray → blk < w.heap.size → Calls P f #[.slice (some ⟨blk, off, none⟩) zs.length cap] w fun e w' =>
      e = .returned (.tuple #[]) ∧ ∃ n os, w' = grow (putRow (Value.int .i64) (Sort.ahead w n) blk off (sortI zs).toArray) os) :
    GenOK P f [.inl 1 (zs.map (V.int .i64))] [] ⟨false, .tup [], [.inl 1 ((sortI zs).map (V.int .i64))], []⟩ := by
  refine ⟨has, fun M W vs hM hv => ?_⟩
  have hR := start_ints zs
  have hB : (start [.inl 1 (zs.map (V.int .i64))] []).B = fun _ => none := by
    funext x
    simp [start, adCs]
  have hnt : M.nt = 1 := by rw [hM.nt]; simp [start, adCs, adC, adL, S.newR, S.setR, S.zero]
  have hnb : M.nb = 0 := by rw [hM.nb]; simp [start, adCs]
  have hv' : ∃ v, vs = [v] ∧ v = M.ρ 0 := by
    simp only [adCs, adC, adL, S.zero] at hv
    cases vs with
    | nil => exact hv.elim
    | cons v vs =>
      cases vs with
      | cons _ _ => exact hv.2.elim
      | nil => exact ⟨v, rfl, hv.1.2⟩
  obtain ⟨v, rfl, rfl⟩ := hv'
  obtain ⟨_, hrow⟩ := hM.row 0 ⟨1, zs.map (V.int .i64), true⟩ (by rw [hR]; simp)
  rcases hrow with ⟨_, B, hown, hω, _⟩ | ⟨h, _⟩
  · obtain ⟨b, o, c, cs, ty, hρ, hBb, hb, hn, hm, hcs, hc⟩ := own_ints hown hne
    have hlt : b < W.heap.size := by
      rw [Array.getElem?_eq_some_iff] at hb
      exact hb.1
    have hH : Holds (Value.int .i64) W b o zs.toArray := by
      intro j hj
      have hj' : j < zs.length := by simpa using hj
      have h1 := hc j zs[j] (List.getElem?_eq_getElem hj')
      refine ⟨?_, ?_⟩
      · rw [getElem!_pos zs.toArray j hj]
        simp only [World.cell?, hb]
        simpa using h1
      · simp [World.frozen?, hb]
    rw [hρ]
    refine (hcall b o c W hH hlt).mono ?_
    rintro e W' ⟨rfl, n, os, rfl⟩
    obtain ⟨k1, k2, k3⟩ := putRow_block (n := n) (o := o) (os := os) (ds := (sortI zs).toArray) hb
    have hsl : (sortI zs).length = zs.length := (sortI_perm zs).length_eq
    generalize hW' : grow (putRow (Value.int .i64) (Sort.ahead W n) b o (sortI zs).toArray) os = W' at k1 k2 k3
    have hos : W'.os = W.os ∧ W'.tape = W.tape ∧ W'.output = W.output := by subst hW'; exact ⟨rfl, rfl, rfl⟩
    have hωb := hω b hBb
    have hown' : OwnN W' M.F (fun x => x = b) 1 (M.ρ 0) ((sortI zs).map (V.int .i64)) := by
      rw [hρ, ← hsl]
      exact ints_own k1 (by omega) hm (by rw [putCells_size]; exact hcs) fun j z hz => putCells_get (c := c) hcs (by simp; omega) (by simpa using hz)
    refine ⟨_, M, { start [.inl 1 (zs.map (V.int .i64))] [] with R := fun x => if x = 0 then some ⟨1, (sortI zs).map (V.int .i64), true⟩ else none }, .tup [], rfl, ?_⟩
    refine ⟨⟨[], rfl, trivial⟩, ⟨hM.nt, hM.nb, fun x y hx => ?_, fun t r hr => ?_, fun x hx => ⟨(hM.frz x hx).1, Nat.lt_of_lt_of_le (hM.frz x hx).2 k3⟩, fun x l hx => Nat.lt_of_lt_of_le (hM.lt x l hx) k3, hM.tok, hM.bx⟩, ⟨hos.1, hos.2.1, hos.2.2, k3, fun x hx hω0 => k2 x hx (fun e => by subst e; rw [hωb] at hω0; cases hω0), fun x l hx => .inl (by simp [hx]), fun x hx => .inl hx, fun _ h => h, Nat.le_refl _, Nat.le_refl _, fun _ _ => rfl, fun _ _ => rfl⟩, ?_, ?_, ?_, ?_, ?_, ?_, ?_⟩
    · simp only [hB] at hx
      cases hx
    · simp only at hr
      split at hr
      · rename_i h0
        subst h0
        cases hr
        refine ⟨by omega, .inl ⟨rfl, _, hown', ?_, ?_⟩⟩
        · rintro x rfl
          exact hωb
        · intro j i z ys hl
          obtain ⟨_, _, _, e⟩ := leafAt_ints hl
          cases e
      · cases hr
    · simp [resToks, liveOuts, isBad]
    · simp [resBoxes]
    · intro _
      refine ⟨by simp [noL, noLs], ?_⟩
      have : ∀ l : List Int, noLs (l.map (V.int .i64)) = true := by
        intro l
        induction l with
        | nil => rfl
        | cons x xs ih => simp [noLs, noL, ih]
      simp [noLs, noL, this]
    · simp
    · simp [outsOk, S.outR]
    · simp [boxOuts]
    · simp [closeR]
  · cases h
end Go.TM
end
section
set_option linter.unusedVariables false
set_option linter.unusedSimpArgs false
namespace Go.TM
open Go Go.Proofs Go.Sort Go.Shelf
theorem noLs_ints (l : List Int) : noLs (l.map (V.int .i64)) = true := by
  induction l with
  | nil => rfl
  | cons x xs ih => simp [noLs, noL, ih]
theorem ints_nt (zs : List Int) : (start [.inl 1 (zs.map (V.int .i64))] []).nt = 1 ∧ (start [.inl 1 (zs.map (V.int .i64))] []).nb = 0 ∧ (start [.inl 1 (zs.map (V.int .i64))] []).B = fun _ => none := by
  refine ⟨by simp [start, adCs, adC, adL, S.newR, S.setR, S.zero], by simp [start, adCs], ?_⟩
  funext x
  simp [start, adCs]
theorem ints_arg {M : Mem} {W : World} {zs : List Int} {vs : List Value} (hv : All2 (SR1 M W) (adCs [.inl 1 (zs.map (V.int .i64))] S.zero).1 vs) : vs = [M.ρ 0] := by
  simp only [adCs, adC, adL, S.zero] at hv
  cases vs with
  | nil => exact hv.elim
  | cons v vs =>
    cases vs with
    | cons _ _ => exact hv.2.elim
    | nil => rw [hv.1.2]
theorem compact_len (zs : List Int) : (Lib.compact zs).length ≤ zs.length := by
  unfold Lib.compact Lib.compactUpTo
  rw [List.length_map]
  exact Nat.le_trans (List.length_filter_le _ _) (by simp)
theorem compact_gen {P : Program} {f : FuncId} {zs : List Int} (hlen : zs.length ≤ 9223372036854775807)
    (has : ∃ fn, P.funcs[f]? = some fn ∧ (fn.name == "runtime.NumGoroutine") = false ∧ fn.body.isNone = false)
    (hcall : ∀ (blk off cap : Nat) (w : World), Holds (Value.int .i64) w blk off zs.toArray → zs.length ≤ cap → Calls P f #[.slice (some ⟨blk, off, none⟩) zs.length cap] w fun e w' =>
      e = .returned (.slice (some ⟨blk, off, none⟩) (Lib.compact zs).length cap) ∧ ∃ q, w' = putRow (Value.int .i64) (Sort.ahead w q) blk off (Lib.compact zs ++ List.replicate (zs.length - (Lib.compact zs).length) 0).toArray)
    (hnil : ∀ (a : Option Addr) (cap : Nat) (w : World), Calls P f #[.slice a 0 cap] w fun e w' => e = .returned (.slice a 0 cap) ∧ w' = w) :
    GenOK P f [.inl 1 (zs.map (V.int .i64))] [] ⟨true, .inl 1 ((Lib.compact zs).map (V.int .i64)), [.bad], []⟩ := by
  refine ⟨has, fun M W vs hM hv => ?_⟩
  have hR := start_ints zs
  obtain ⟨n1, n2, hB⟩ := ints_nt zs
  have hnt : M.nt = 1 := by rw [hM.nt, n1]
  have hnb : M.nb = 0 := by rw [hM.nb, n2]
  obtain rfl := ints_arg hv
  obtain ⟨_, hrow⟩ := hM.row 0 ⟨1, zs.map (V.int .i64), true⟩ (by rw [hR]; simp)
  rcases hrow with ⟨_, B, hown, hω, _⟩ | ⟨h, _⟩
  · by_cases hne : zs = []
    · subst hne
      have hv0 : ∃ a cap, M.ρ 0 = .slice a 0 cap := by
        generalize M.ρ 0 = q at hown
        generalize hx : ([] : List Int).map (V.int .i64) = xs at hown
        cases hown with
        | nil => exact ⟨_, _, rfl⟩
        | row => subst hx; exact ⟨_, _, rfl⟩
      obtain ⟨a, cap, hv0⟩ := hv0
      rw [hv0]
      refine (hnil a cap W).mono ?_
      rintro e W' ⟨rfl, rfl⟩
      refine ⟨_, M, start [.inl 1 (([] : List Int).map (V.int .i64))] [], .own 0, rfl, ?_⟩
      refine ⟨⟨by omega, hv0.symm⟩, hM, .refl _ _, ?_, ?_, ?_, ?_, ?_, ?_, ?_⟩
      · simp [resToks, resToks1, toks1, tokL, leaves, liveOuts, isBad, S.wrT, hR]
      · simp [resBoxes, boxesL]
      · intro h
        cases h
      · simp
      · simp [outsOk, isBad]
      · simp [boxOuts]
      · simp [closeR, closeB, onL1, closeL, hR, Lib.compact, Lib.compactUpTo]
    · obtain ⟨b, o, c, cs, ty, hρ, hBb, hb, hn, hm, hcs, hc⟩ := own_ints hown hne
      have hlt : b < W.heap.size := by
        rw [Array.getElem?_eq_some_iff] at hb
        exact hb.1
      have hH : Holds (Value.int .i64) W b o zs.toArray := by
        intro j hj
        have hj' : j < zs.length := by simpa using hj
        have h1 := hc j zs[j] (List.getElem?_eq_getElem hj')
        refine ⟨?_, ?_⟩
        · rw [getElem!_pos zs.toArray j hj]
          simp only [World.cell?, hb]
          simpa using h1
        · simp [World.frozen?, hb]
      rw [hρ]
      refine (hcall b o c W hH hn).mono ?_
      rintro e W' ⟨rfl, n, rfl⟩
      have hcl := compact_len zs
      obtain ⟨k1, k2, k3⟩ := putRow_block (n := n) (o := o) (os := #[]) (ds := (Lib.compact zs ++ List.replicate (zs.length - (Lib.compact zs).length) 0).toArray) hb
      rw [grow_empty] at k1 k2 k3
      generalize hW' : putRow (Value.int .i64) (Sort.ahead W n) b o (Lib.compact zs ++ List.replicate (zs.length - (Lib.compact zs).length) 0).toArray = W' at k1 k2 k3
      have hos : W'.os = W.os ∧ W'.tape = W.tape ∧ W'.output = W.output := by subst hW'; exact ⟨rfl, rfl, rfl⟩
      have hωb := hω b hBb
      have hown' : OwnN W' M.F (fun x => x = b) 1 (.slice (some ⟨b, o, none⟩) (Lib.compact zs).length c) ((Lib.compact zs).map (V.int .i64)) := by
        refine ints_own k1 (by omega) hm (by rw [putCells_size]; exact hcs) fun j z hz => putCells_get (c := c) hcs (by simp; omega) ?_
        have hj : j < (Lib.compact zs).length := by
          rw [List.getElem?_eq_some_iff] at hz
          exact hz.1
        simpa [List.getElem?_append_left hj] using hz
      refine ⟨_, ⟨M.F, fun x => if x = b then some (.tok 1) else M.ω x, M.β, fun t => if t = 1 then .slice (some ⟨b, o, none⟩) (Lib.compact zs).length c else M.ρ t, M.σ, 2, M.nb⟩,
        ⟨(start [.inl 1 (zs.map (V.int .i64))] []).e, (start [.inl 1 (zs.map (V.int .i64))] []).B, fun x => if x = 1 then some ⟨1, (Lib.compact zs).map (V.int .i64), true⟩ else none, 2, (start [.inl 1 (zs.map (V.int .i64))] []).nb⟩, .own 1, rfl, ?_⟩
      refine ⟨⟨by simp, by simp⟩, ⟨rfl, hM.nb, fun x y hx => ?_, fun t r hr => ?_, fun x hx => ⟨?_, Nat.lt_of_lt_of_le (hM.frz x hx).2 k3⟩, fun x l hx => ?_, fun x t hx => ?_, fun x k hx => ?_⟩, ⟨hos.1, hos.2.1, hos.2.2, k3, fun x hx hω0 => k2 x hx (fun e => by subst e; rw [hωb] at hω0; cases hω0), fun x l hx => .inl ?_, fun x hx => .inl hx, fun _ h => h, ?_, Nat.le_refl _, fun t ht => ?_, fun _ _ => rfl⟩, ?_, ?_, ?_, ?_, ?_, ?_, ?_⟩
      · simp only [hB] at hx
        cases hx
      · simp only at hr
        split at hr
        · rename_i h0
          subst h0
          cases hr
          refine ⟨by simp, .inl ⟨rfl, fun x => x = b, by simpa using hown', ?_, ?_⟩⟩
          · rintro x rfl
            simp
          · intro j i z ys hl
            obtain ⟨_, _, _, e⟩ := leafAt_ints hl
            cases e
        · cases hr
      · have h1 := (hM.frz x hx).1
        have hxb : x ≠ b := fun e => by subst e; rw [hωb] at h1; cases h1
        simp [hxb, h1]
      · by_cases e : x = b
        · subst e
          exact Nat.lt_of_lt_of_le hlt k3
        · simp only [e, if_false] at hx
          exact Nat.lt_of_lt_of_le (hM.lt x l hx) k3
      · by_cases e : x = b
        · simp only [e, if_true, Option.some.injEq, Root.tok.injEq] at hx
          simp [← hx]
        · simp only [e, if_false] at hx
          have := hM.tok x t hx
          simp only
          omega
      · by_cases e : x = b
        · simp [e] at hx
        · simp only [e, if_false] at hx
          exact hM.bx x k hx
      · by_cases e : x = b
        · subst e
          rw [hωb]
          simp
        · simp only [e, if_false] at hx
          simp [hx]
      · simp only
        omega
      · have : t ≠ 1 := by omega
        simp [this]
      · simp [resToks, resToks1, toks1, tokL, liveOuts, isBad, S.wrT]
      · simp [resBoxes, boxesL]
      · intro h
        cases h
      · simp
      · simp [outsOk, isBad]
      · simp [boxOuts]
      · simp [closeR, closeB, onL1, closeL]
  · cases h
theorem sort_all {P : Program} {f : FuncId} {zs : List Int} (hlen : zs.length < 4611686018427387904)
    (has : ∃ fn, P.funcs[f]? = some fn ∧ (fn.name == "runtime.NumGoroutine") = false ∧ fn.body.isNone = false)
    (hcall : ∀ (blk off cap : Nat) (w : World), Holds (Value.int .i64) w blk off zs.toArray → blk < w.heap.size → Calls P f #[.slice (some ⟨blk, off, none⟩) zs.length cap] w fun e w' =>
      e = .returned (.tuple #[]) ∧ ∃ n os, w' = grow (putRow (Value.int .i64) (Sort.ahead w n) blk off (sortI zs).toArray) os)
    (hnil : ∀ (a : Option Addr) (cap : Nat) (w : World), Calls P f #[.slice a 0 cap] w fun e w' => e = .returned (.tuple #[]) ∧ w' = w) :
    GenOK P f [.inl 1 (zs.map (V.int .i64))] [] ⟨false, .tup [], [.inl 1 ((sortI zs).map (V.int .i64))], []⟩ := by
  by_cases hne : zs = []
  · subst hne
    refine ⟨has, fun M W vs hM hv => ?_⟩
    have hR := start_ints []
    obtain ⟨n1, n2, hB⟩ := ints_nt []
    obtain rfl := ints_arg hv
    obtain ⟨_, hrow⟩ := hM.row 0 ⟨1, ([] : List Int).map (V.int .i64), true⟩ (by rw [hR]; simp)
    rcases hrow with ⟨_, B, hown, hω, _⟩ | ⟨h, _⟩
    · have hv0 : ∃ a cap, M.ρ 0 = .slice a 0 cap := by
        generalize M.ρ 0 = q at hown
        generalize hx : ([] : List Int).map (V.int .i64) = xs at hown
        cases hown with
        | nil => exact ⟨_, _, rfl⟩
        | row => subst hx; exact ⟨_, _, rfl⟩
      obtain ⟨a, cap, hv0⟩ := hv0
      rw [hv0]
      refine (hnil a cap W).mono ?_
      rintro e W' ⟨rfl, rfl⟩
      have hs : sortI [] = [] := by simp [sortI]
      refine ⟨_, M, start [.inl 1 (([] : List Int).map (V.int .i64))] [], .tup [], rfl, ?_⟩
      refine ⟨⟨[], rfl, trivial⟩, hM, .refl _ _, ?_, ?_, ?_, ?_, ?_, ?_, ?_⟩
      · simp [resToks, liveOuts, isBad]
      · simp [resBoxes]
      · intro _
        simp [noL, noLs, hs]
      · simp
      · simp [outsOk, S.outR, hR, hs]
      · simp [boxOuts]
      · simp [closeR]
    · cases h
  · exact sort_gen hne hlen has hcall
end Go.TM
end
section
set_option linter.unusedVariables false
namespace Go.Proofs
open Go.Shelf
def Tryz.lays189_ren : Go.Shelf.Ren := ⟨fun | 189 => 101 | 125 => 119 | 257 => 118 | 128 => 133 | 129 => 134 | 294 => 124 | 295 => 125 | 296 => 126 | 297 => 127 | 298 => 128 | 299 => 129 | 216 => 130 | 300 => 131 | 301 => 132 | 328 => 136 | 329 => 137 | 330 => 138 | 331 => 139 | 332 => 140 | 215 => 141 | 343 => 142 | n => n, fun | 28 => 130 | 3 => 3 | 46 => 151 | 0 => 0 | 51 => 165 | 53 => 167 | 4 => 4 | 183 => 157 | 182 => 156 | 131 => 162 | 5 => 5 | 9 => 9 | 218 => 169 | 222 => 173 | 228 => 175 | 229 => 176 | n => n, fun | n => n⟩
theorem Tryz.lays189 : Go.Proofs.Lays.n189 Tryz.prog Tryz.lays189_ren := {
  mixed := by kernel_rfl,
  f125 := Tryz.func119.trans (congrArg some (by kernel_rfl)),
  f128 := Tryz.func133.trans (congrArg some (by kernel_rfl)),
  f129 := Tryz.func134.trans (congrArg some (by kernel_rfl)),
  f189 := Tryz.func101.trans (congrArg some (by kernel_rfl)),
  f215 := Tryz.func141.trans (congrArg some (by kernel_rfl)),
  f216 := Tryz.func130.trans (congrArg some (by kernel_rfl)),
  f257 := Tryz.func118.trans (congrArg some (by kernel_rfl)),
  f294 := Tryz.func124.trans (congrArg some (by kernel_rfl)),
  f295 := Tryz.func125.trans (congrArg some (by kernel_rfl)),
  f296 := Tryz.func126.trans (congrArg some (by kernel_rfl)),
  f297 := Tryz.func127.trans (congrArg some (by kernel_rfl)),
  f298 := Tryz.func128.trans (congrArg some (by kernel_rfl)),
  f299 := Tryz.func129.trans (congrArg some (by kernel_rfl)),
  f300 := Tryz.func131.trans (congrArg some (by kernel_rfl)),
  f301 := Tryz.func132.trans (congrArg some (by kernel_rfl)),
  f328 := Tryz.func136.trans (congrArg some (by kernel_rfl)),
  f329 := Tryz.func137.trans (congrArg some (by kernel_rfl)),
  f330 := Tryz.func138.trans (congrArg some (by kernel_rfl)),
  f331 := Tryz.func139.trans (congrArg some (by kernel_rfl)),
  f332 := Tryz.func140.trans (congrArg some (by kernel_rfl)),
  f343 := Tryz.func142.trans (congrArg some (by kernel_rfl)),
  t0 := Tryz.underlying0,
  a0 := Tryz.isAgg0,
  z0 := Tryz.sizeOf0,
  v0 := Tryz.zeroValue0,
  t3 := Tryz.underlying3,
  a3 := Tryz.isAgg3,
  z3 := Tryz.sizeOf3,
  v3 := Tryz.zeroValue3,
  t4 := Tryz.underlying4,
  a4 := Tryz.isAgg4,
  z4 := Tryz.sizeOf4,
  v4 := Tryz.zeroValue4,
  t5 := Tryz.underlying5,
  a5 := Tryz.isAgg5,
  z5 := Tryz.sizeOf5,
  v5 := Tryz.zeroValue5,
  t9 := Tryz.underlying9,
  a9 := Tryz.isAgg9,
  z9 := Tryz.sizeOf9,
  v9 := Tryz.zeroValue9,
  t28 := Tryz.underlying130,
  a28 := Tryz.isAgg130,
  z28 := Tryz.sizeOf130,
  v28 := Tryz.zeroValue130,
  t46 := Tryz.underlying151,
  a46 := Tryz.isAgg151,
  z46 := Tryz.sizeOf151,
  v46 := Tryz.zeroValue151,
  t51 := Tryz.underlying165,
  a51 := Tryz.isAgg165,
  z51 := Tryz.sizeOf165,
  v51 := Tryz.zeroValue165,
  t53 := Tryz.underlying167,
  a53 := Tryz.isAgg167,
  z53 := Tryz.sizeOf167,
  v53 := Tryz.zeroValue167,
  t131 := Tryz.underlying162,
  a131 := Tryz.isAgg162,
  z131 := Tryz.sizeOf162,
  v131 := Tryz.zeroValue162,
  t182 := Tryz.underlying156,
  a182 := Tryz.isAgg156,
  z182 := Tryz.sizeOf156,
  v182 := Tryz.zeroValue156,
  t183 := Tryz.underlying157,
  a183 := Tryz.isAgg157,
  z183 := Tryz.sizeOf157,
  v183 := Tryz.zeroValue157,
  t218 := Tryz.underlying169,
  a218 := Tryz.isAgg169,
  z218 := Tryz.sizeOf169,
  v218 := Tryz.zeroValue169,
  t222 := Tryz.underlying173,
  a222 := Tryz.isAgg173,
  z222 := Tryz.sizeOf173,
  v222 := Tryz.zeroValue173,
  t228 := Tryz.underlying175,
  a228 := Tryz.isAgg175,
  z228 := Tryz.sizeOf175,
  v228 := Tryz.zeroValue175,
  t229 := Tryz.underlying176,
  a229 := Tryz.isAgg176,
  z229 := Tryz.sizeOf176,
  v229 := Tryz.zeroValue176 }
def Tryz.lays2_20_ren : Go.Shelf.Ren := ⟨fun | 20 => 104 | n => n, fun | 22 => 130 | 3 => 3 | 4 => 4 | 0 => 0 | n => n, fun | n => n⟩
theorem Tryz.lays2_20 : Go.Proofs.Lays2.n20 Tryz.prog Tryz.lays2_20_ren := {
  mixed := by kernel_rfl,
  f20 := Tryz.func104.trans (congrArg some (by kernel_rfl)),
  t0 := Tryz.underlying0,
  a0 := Tryz.isAgg0,
  z0 := Tryz.sizeOf0,
  v0 := Tryz.zeroValue0,
  t3 := Tryz.underlying3,
  a3 := Tryz.isAgg3,
  z3 := Tryz.sizeOf3,
  v3 := Tryz.zeroValue3,
  t4 := Tryz.underlying4,
  a4 := Tryz.isAgg4,
  z4 := Tryz.sizeOf4,
  v4 := Tryz.zeroValue4,
  t22 := Tryz.underlying130,
  a22 := Tryz.isAgg130,
  z22 := Tryz.sizeOf130,
  v22 := Tryz.zeroValue130,
  i3 := by kernel_rfl }
end Go.Proofs
end
section
set_option maxHeartbeats 2000000
set_option linter.unusedSimpArgs false
set_option linter.unusedVariables false
namespace Go.TM.Tryz
open Go Go.TM Go.Proofs
/-! ### the library's Sort and Compact over numbers -/
theorem f101_ok (zs : List Int) (h : zs.length ≤ 1048576) : GenOK Tryz.prog 101 [.inl 1 (zs.map (V.int .i64))] [] ⟨false, .tup [], [.inl 1 ((sortI zs).map (V.int .i64))], []⟩ :=
  sort_all (by omega) ⟨_, Tryz.func101, by kernel_rfl, by kernel_rfl⟩ (fun blk off cap w hH hb => Any.slices_Sort_int Tryz.lays189 blk off cap zs w hH hb (by omega)) (fun a cap w => Any.slices_Sort_int_none Tryz.lays189 a cap w)
theorem inj_ints {β : Type} (out : List Int → β) : ∀ a b : List Int, (([.inl 1 (a.map (V.int .i64))], []) : List V × List V) = ([.inl 1 (b.map (V.int .i64))], []) → out a = out b := by
  intro a b h
  simp only [Prod.mk.injEq, List.cons.injEq, and_true, V.inl.injEq, true_and] at h
  rw [map_inj (f := V.int .i64) (by intro x y; simp) h]
noncomputable def c101 := ctrG (fun zs : List Int => zs.length ≤ 1048576) (fun zs => ([.inl 1 (zs.map (V.int .i64))], [])) (fun zs => ⟨false, .tup [], [.inl 1 ((sortI zs).map (V.int .i64))], []⟩)
theorem c101_eq (zs : List Int) (h : zs.length ≤ 1048576) : c101 [.inl 1 (zs.map (V.int .i64))] [] = some ⟨false, .tup [], [.inl 1 ((sortI zs).map (V.int .i64))], []⟩ := ctrG_eq (inj_ints _) zs h rfl
theorem c101_ok : GOK Tryz.prog (101, [true], c101) := ctrG_ok fun zs h => f101_ok zs h
theorem f104_ok (zs : List Int) (h : zs.length ≤ 1048576) : GenOK Tryz.prog 104 [.inl 1 (zs.map (V.int .i64))] [] ⟨true, .inl 1 ((Lib.compact zs).map (V.int .i64)), [.bad], []⟩ :=
  compact_gen (by omega) ⟨_, Tryz.func104, by kernel_rfl, by kernel_rfl⟩ (fun blk off cap w hH hc => Any.slices_Compact_int Tryz.lays2_20 blk off cap zs w hH (by omega) hc) (fun a cap w => Any.slices_Compact_int_empty Tryz.lays2_20 a cap w)
noncomputable def c104 := ctrG (fun zs : List Int => zs.length ≤ 1048576) (fun zs => ([.inl 1 (zs.map (V.int .i64))], [])) (fun zs => ⟨true, .inl 1 ((Lib.compact zs).map (V.int .i64)), [.bad], []⟩)
theorem c104_eq (zs : List Int) (h : zs.length ≤ 1048576) : c104 [.inl 1 (zs.map (V.int .i64))] [] = some ⟨true, .inl 1 ((Lib.compact zs).map (V.int .i64)), [.bad], []⟩ := ctrG_eq (inj_ints _) zs h rfl
theorem c104_ok : GOK Tryz.prog (104, [true], c104) := ctrG_ok fun zs h => f104_ok zs h
end Go.TM.Tryz
end
section
set_option maxHeartbeats 2000000
set_option linter.unusedSimpArgs false
set_option linter.unusedVariables false
namespace Go.TM
@[simp] theorem norms_ints (xs : List Int) : norms (xs.map (V.int .i64)) = xs.map (V.int .i64) := by rw [norms_map]; simp
attribute [simp] noLs_ints
theorem int_inj : Function.Injective (V.int .i64) := by intro x y; simp
@[simp] theorem cut_ints (xs : List Int) : (xs = [] ∨ (leaves ((Option.map (V.int .i64) xs[0]?).getD .bad)).length = 1) = True := cut_ok (f := V.int .i64) (n := 1) (fun _ => rfl) xs
@[simp] theorem take_map_len {α : Type} (l : List α) (f : α → V) : List.take l.length (l.map f) = l.map f := List.take_of_length_le (by simp)
/-- A row of one's own, by what it holds. -/
def hasR (t : S) (v : V) (z : Nat) (xs : List V) : Prop := ∃ r, v = .own r ∧ r < t.nt ∧ t.R r = some ⟨z, xs, true⟩
@[simp] theorem hasR_own {t : S} {r z : Nat} {xs : List V} : hasR t (.own r) z xs ↔ r < t.nt ∧ t.R r = some ⟨z, xs, true⟩ :=
  ⟨fun ⟨_, h, h2⟩ => by cases h; exact h2, fun h => ⟨r, rfl, h⟩⟩
def hasI (l : List Int) (n : Int) : Bool := l.any fun x => decide (x = n)
theorem hasI_iff {l : List Int} {n : Int} : hasI l n = true ↔ n ∈ l := by
  simp only [hasI, List.any_eq_true, decide_eq_true_eq]
  constructor
  · rintro ⟨x, h, rfl⟩; exact h
  · exact fun h => ⟨n, h, rfl⟩
end Go.TM
namespace Go.TM.Tryz
open Go Go.TM Go.Proofs
theorem f120_ok (l : List Int) (s : Int) (hl : l.length ≤ lim) : FunOK Tryz.prog 120 [.lst (l.map (V.int .i64)), .int .i64 s] false (.int .i64 (fstI (fun x => decide (x = s)) l)) := by
  refine fun_ok (mkE_ok zmix (cl := []) (gl := []) [] trivial trivial) Tryz.func120 (by kernel_rfl) ?_
  refine FunW_run _ _ rfl rfl ?_
  simp only [lim] at hl
  simp
  refine lp_list l (fun i t => t.e 1 = .int .i64 s ∧ t.e 0 = .lst (l.map (V.int .i64)) ∧ t.e 7 = .int .i64 l.length ∧ t.e 8 = .int .i64 i ∧ anyI (fun x => decide (x = s)) l i = false) ?_ ?_ ?_
  · simp
  · rintro c' L hL i t x hx hi ih ⟨h1, h7, h8, h9, hall⟩
    have hw : IntKind.i64.wrap ((i : Int) + 1) = ((i + 1 : Nat) : Int) := wrap64 (by omega) (by omega)
    simp [-getElem?_pos, List.getElem?_cons_zero, h1, h7, h8, h9, hL, hi, hx]
    split
    · rename_i hc
      exact (fst_yes hx (by simp [hc]) hall).symm
    · rename_i hc
      refine ih _ ?_
      simp [h1, h7, h8, h9, hw, anyI_succ hx, hall]
      exact fun h => hc h.symm
  · rintro c' t ⟨h1, h7, h8, h9, hall⟩
    simp [h1, h7, h8, h9, fst_no hall]
noncomputable def c120 := ctr (fun a : List Int × Int => a.1.length ≤ lim) (fun a => [.lst (a.1.map (V.int .i64)), .int .i64 a.2]) (fun a => (false, .int .i64 (fstI (fun x => decide (x = a.2)) a.1)))
theorem c120_eq (l : List Int) (s : Int) (h : l.length ≤ lim) : c120 [.lst (l.map (V.int .i64)), .int .i64 s] = some (false, .int .i64 (fstI (fun x => decide (x = s)) l)) := ctr_eq (injl1 int_inj _) (l, s) h rfl
theorem c120_ok : COK Tryz.prog (120, c120) := ctr_ok fun a h => f120_ok a.1 a.2 h
theorem f102_ok (l : List Int) (s : Int) (hl : l.length ≤ lim) : FunOK Tryz.prog 102 [.lst (l.map (V.int .i64)), .int .i64 s] false (.bool (hasI l s)) := by
  refine fun_ok (mkE_ok zmix (cl := [(120, c120)]) (gl := []) [] c120_ok trivial) Tryz.func102 (by kernel_rfl) ?_
  refine FunW_run _ _ rfl rfl ?_
  simp [c120_eq l s hl, fst_ge, hasI]
noncomputable def c102 := ctr (fun a : List Int × Int => a.1.length ≤ lim) (fun a => [.lst (a.1.map (V.int .i64)), .int .i64 a.2]) (fun a => (false, .bool (hasI a.1 a.2)))
theorem c102_eq (l : List Int) (s : Int) (h : l.length ≤ lim) : c102 [.lst (l.map (V.int .i64)), .int .i64 s] = some (false, .bool (hasI l s)) := ctr_eq (injl1 int_inj _) (l, s) h rfl
theorem c102_ok : COK Tryz.prog (102, c102) := ctr_ok fun a h => f102_ok a.1 a.2 h
theorem f121_ok (l : List Int) (hl : l.length ≤ 1048576) : FunOK Tryz.prog 121 [.lst (l.map (V.int .i64))] false (.inl 1 (l.map (V.int .i64))) := by
  refine fun_ok (mkE_ok zmix (cl := []) (gl := []) [] trivial trivial) Tryz.func121 (by kernel_rfl) ?_
  refine FunW_run _ _ rfl rfl ?_
  have h1 : l.length * 8 ≤ 140737488355328 := by omega
  have h2 : l.length ≤ 4294967296 := by omega
  cases l with
  | nil => simp [room]
  | cons x xs => simp at h1 h2; simp [room, h1, h2]
noncomputable def c121 := ctr (fun l : List Int => l.length ≤ 1048576) (fun l => [.lst (l.map (V.int .i64))]) (fun l => (false, .inl 1 (l.map (V.int .i64))))
theorem c121_eq (l : List Int) (h : l.length ≤ 1048576) : c121 [.lst (l.map (V.int .i64))] = some (false, .inl 1 (l.map (V.int .i64))) := ctr_eq (injl int_inj _) l h rfl
theorem c121_ok : COK Tryz.prog (121, c121) := ctr_ok fun l h => f121_ok l h
end Go.TM.Tryz
end
section
set_option maxHeartbeats 2000000
set_option linter.unusedSimpArgs false
set_option linter.unusedVariables false
namespace Go.TM.Tryz
open Go Go.TM Go.Proofs
def baseL (p : Bool) (x : Ty) : List Int := if (decide (0 ≤ x.base) && (p || !decide (x.kind = 6))) = true then [x.base] else []
def partsL (p : Bool) (x : Ty) : List Int := baseL p x ++ x.fields.map Fld.type
theorem baseL_len (p : Bool) (x : Ty) : (baseL p x).length ≤ 1 := by unfold baseL; split <;> simp
theorem f100_ok (x : Ty) (p : Bool) (hl : x.fields.length ≤ 1048576) : FunOK Tryz.prog 100 [x.v, .bool p] false (.inl 1 ((partsL p x).map (V.int .i64))) := by
  refine fun_ok (mkE_ok zmix (cl := []) (gl := []) [] trivial trivial) Tryz.func100 (by kernel_rfl) ?_
  refine FunW_run _ _ rfl rfl ?_
  have hr : room ⟨1, false, 8, .int .i64 0⟩ 1 := by simp [room]
  simp
  split
  all_goals rename_i hc
  all_goals try refine ⟨hr, ?_⟩
  all_goals
    refine lp_list x.fields (fun i t => t.e 26 = .lst (x.fields.map Fld.v) ∧ t.e 27 = .int .i64 x.fields.length ∧ t.e 28 = .int .i64 i ∧ hasR t (t.e 5) 1 ((baseL p x ++ (x.fields.take i).map Fld.type).map (V.int .i64))) ?_ ?_ ?_
    · simp [baseL, hc]
    · rintro c' L hL i t y hx hi ih ⟨h26, h27, h28, r, h5, hlt, hR⟩
      have hw : IntKind.i64.wrap ((i : Int) + 1) = ((i + 1 : Nat) : Int) := wrap64 (by omega) (by omega)
      have hr2 : room ⟨1, false, 8, .int .i64 0⟩ ((baseL p x).length + i + 1) := by have := baseL_len p x; simp [room]; omega
      have hne : ¬ r = t.nt := by omega
      have hmin : min i x.fields.length = i := by omega
      simp [-getElem?_pos, List.getElem?_cons_zero, List.getElem?_cons_succ, h26, h27, h28, h5, hR, hL, hi, hx, hr, hr2, hmin, hne]
      refine ih _ ?_
      simp [h26, h27, h28, hw, List.take_add_one, hx]
    · rintro c' t ⟨h26, h27, h28, r, h5, hlt, hR⟩
      rw [List.take_length] at hR
      have hR' : t.R r = some ⟨1, (partsL p x).map (V.int .i64), true⟩ := hR
      simp [h26, h27, h28, h5, hR']
noncomputable def c100 := ctr (fun a : Ty × Bool => a.1.fields.length ≤ 1048576) (fun a => [a.1.v, .bool a.2]) (fun a => (false, .inl 1 ((partsL a.2 a.1).map (V.int .i64))))
theorem inj100 {β : Type} (out : Ty × Bool → β) : ∀ a b : Ty × Bool, [a.1.v, .bool a.2] = [b.1.v, .bool b.2] → out a = out b := by
  rintro ⟨a, c⟩ ⟨b, d⟩ h
  simp only [List.cons.injEq, and_true, V.bool.injEq] at h
  rw [Ty.v_inj h.1, h.2]
theorem c100_eq (x : Ty) (p : Bool) (h : x.fields.length ≤ 1048576) : c100 [x.v, .bool p] = some (false, .inl 1 ((partsL p x).map (V.int .i64))) := ctr_eq (inj100 _) (x, p) h rfl
theorem c100_ok : COK Tryz.prog (100, c100) := ctr_ok fun a h => f100_ok a.1 a.2 h
noncomputable def c94 := ctr (fun _ : Unit => True) (fun _ => []) (fun _ => (false, .inl 6 (baseTys.map Ty.o)))
theorem c94_eq : c94 [] = some (false, .inl 6 (baseTys.map Ty.o)) := ctr_eq (by simp) () trivial rfl
theorem c94_ok : COK Tryz.prog (94, c94) := ctr_ok fun _ _ => f94_ok
end Go.TM.Tryz
end
section
set_option maxHeartbeats 2000000
set_option linter.unusedSimpArgs false
set_option linter.unusedVariables false
namespace Go.TM.Tryz
open Go Go.TM Go.Proofs
def tyAt (l : List Ty) (i : Nat) (x : Ty) : Bool := !(!decide (x.name = ⟨#[]⟩) && ((l.take (3 + i)).drop 3).any (sameTyB x)) && typeB l x
def typesB (l : List Ty) : Bool := inB l.length 3 24 && tysEq (l.take 3) baseTys && allI (tyAt l) (l.drop 3) (l.drop 3).length
@[simp] theorem baseTys_length : baseTys.length = 3 := rfl
theorem baseTys_lim : limL Ty.lim baseTys := by
  refine ⟨by simp [lim], ?_⟩
  intro x hx
  simp only [baseTys, List.mem_cons, List.not_mem_nil, or_false] at hx
  rcases hx with rfl | rfl | rfl <;> refine ⟨⟨by simp [lim], by simp⟩, ?_, ?_⟩ <;> simp [lim, ByteArray.size]
theorem limL_take {α : Type} {p : α → Prop} {l : List α} (h : limL p l) (n : Nat) : limL p (l.take n) := ⟨Nat.le_trans (by simp; omega) h.1, fun x hx => h.2 x (List.mem_of_mem_take hx)⟩
theorem limL_drop {α : Type} {p : α → Prop} {l : List α} (h : limL p l) (n : Nat) : limL p (l.drop n) := ⟨Nat.le_trans (by simp) h.1, fun x hx => h.2 x (List.mem_of_mem_drop hx)⟩
theorem f75_ok (l : List Ty) (hl : limL Ty.lim l) : FunOK Tryz.prog 75 [.lst (l.map Ty.v)] false (.bool (typesB l)) := by
  refine fun_ok (mkE_ok zmix (cl := [(94, c94), (67, c67), (95, c95), (97, c97), (99, c99)]) (gl := []) [] ⟨c94_ok, c67_ok, c95_ok, c97_ok, c99_ok⟩ trivial) Tryz.func75 (by kernel_rfl) ?_
  refine FunW_run _ _ rfl rfl ?_
  have hlen := hl.1
  simp only [lim] at hlen
  have e95 := c95_eq (l.take 3) baseTys (limL_take hl 3) baseTys_lim
  rw [List.map_take] at e95
  have e67 := c67_eq l.length 3 24
  cases h67 : inB l.length 3 24
  · rw [h67] at e67
    simp [c94_eq, e67, e95, typesB, h67]
  · rw [h67] at e67
    have h3 : 3 ≤ l.length := by simp [inB] at h67; omega
    have h3' : (3 : Int) ≤ l.length := by omega
    cases h95 : tysEq (l.take 3) baseTys
    · rw [h95] at e95
      simp [c94_eq, e67, e95, typesB, h67, h95, h3']
    · rw [h95] at e95
      simp [c94_eq, e67, e95, h3']
      obtain ⟨q, hq⟩ : ∃ q, q = l.drop 3 := ⟨_, rfl⟩
      have hql : q.length = l.length - 3 := by rw [hq]; simp
      refine lp_list q (fun i t => t.e 0 = .lst (l.map Ty.v) ∧ hasR t (t.e 3) 6 (baseTys.map Ty.o) ∧ t.e 26 = .lst (q.map Ty.v) ∧ t.e 27 = .int .i64 q.length ∧ t.e 28 = .int .i64 i ∧ allI (tyAt l) q i = true) ?_ ?_ ?_
      · subst hq
        simp
      · rintro c' L hL i t x hx hi ih ⟨h0, ⟨r, h3, hlt, hR⟩, h26, h27, h28, hall⟩
        have hw : IntKind.i64.wrap ((i : Int) + 1) = ((i + 1 : Nat) : Int) := wrap64 (by omega) (by omega)
        have hw3 : IntKind.i64.wrap (3 + (i : Int)) = ((3 + i : Nat) : Int) := wrap64 (by omega) (by omega)
        have hxl : x ∈ l := List.mem_of_mem_drop (i := 3) (hq ▸ List.mem_of_getElem? hx)
        have e99 := c99_eq l x hl.1 (hl.2 x hxl)
        have e97 := c97_eq ((l.take (3 + i)).drop 3) x (by simp [lim]; omega)
        rw [List.map_drop, List.map_take] at e97
        simp only [Ty.v] at e97 e99
        have h3i : (3 + (i : Int)) ≤ l.length := by omega
        have hne : ¬ r = t.nt := by omega
        have a1 : (3 : Int) ≤ 3 + i := by omega
        have a2 : (3 + (i : Int)).toNat = 3 + i := by omega
        have no : tyAt l i x = false → typesB l = false := fun hn => by
          have := allI_no hx hn
          simp [typesB, ← hq, this]
        have go : ∀ s', tyAt l i x = true → s'.e 0 = .lst (l.map Ty.v) → s'.e 3 = .own r → r < s'.nt → s'.R r = some ⟨6, baseTys.map Ty.o, true⟩ → s'.e 26 = .lst (q.map Ty.v) → s'.e 27 = .int .i64 q.length → s'.e 28 = .int .i64 ((i + 1 : Nat) : Int) → L s' := fun s' hy g0 g3 gl gR g26 g27 g28 =>
          ih s' ⟨g0, ⟨r, g3, gl, gR⟩, g26, g27, g28, by rw [allI_succ hx, hall, hy]; rfl⟩
        cases hn : decide (x.name = ⟨#[]⟩) <;> cases hy : typeB l x <;> cases ha : ((l.take (3 + i)).drop 3).any (sameTyB x)
        all_goals
          rw [hy] at e99
          rw [ha] at e97
          simp only [decide_eq_true_eq, decide_eq_false_iff_not] at hn
          try rw [hn] at e97 e99
          simp [-getElem?_pos, List.getElem?_cons_zero, List.getElem?_cons_succ, h0, h3, hR, h26, h27, h28, hL, hi, hx, hw3, h3i, a1, a2, e97, e99, hn, hne]
          first
          | (apply no; simp [tyAt, hn, hy, ha]; done)
          | (apply go <;> simp [tyAt, hn, hy, ha, h0, h3, hR, h26, h27, h28, hw, hne] <;> omega)
          | skip
      · rintro c' t ⟨h0, ⟨r, h3, hlt, hR⟩, h26, h27, h28, hall⟩
        simp [h0, h3, hR, h26, h27, h28, typesB, h67, h95, ← hq, hall]
noncomputable def c75 := ctr (fun l : List Ty => limL Ty.lim l) (fun l => [.lst (l.map Ty.v)]) (fun l => (false, .bool (typesB l)))
theorem c75_eq (l : List Ty) (h : limL Ty.lim l) : c75 [.lst (l.map Ty.v)] = some (false, .bool (typesB l)) := ctr_eq (injl Ty.v_inj _) l h rfl
theorem c75_ok : COK Tryz.prog (75, c75) := ctr_ok fun l h => f75_ok l h
end Go.TM.Tryz
end
section
set_option maxHeartbeats 2000000
set_option linter.unusedSimpArgs false
set_option linter.unusedVariables false
namespace Go.TM.Tryz
open Go Go.TM Go.Proofs
def nxL (p : Bool) (l : List Ty) (n : Int) : List Int := ((l[n.toNat]?).map (partsL p)).getD []
structure RPre (p : Bool) (l : List Ty) (from_ : List Int) : Prop where
  len : l.length ≤ 24
  fld : ∀ x ∈ l, x.fields.length ≤ 6
  nxt : ∀ x ∈ l, Within l.length (partsL p x)
  src : Within l.length from_
  nod : from_.Nodup
theorem nxL_at {p : Bool} {l : List Ty} {n : Int} (h0 : 0 ≤ n) (h1 : n < l.length) : ∃ x, l[n.toNat]? = some x ∧ x ∈ l ∧ nxL p l n = partsL p x := by
  have h : n.toNat < l.length := by omega
  exact ⟨l[n.toNat], List.getElem?_eq_getElem h, List.getElem_mem h, by simp [nxL, h]⟩
theorem take_succ_at {α : Type} {l : List α} {i : Nat} {x : α} (h : l[i]? = some x) : l.take (i + 1) = l.take i ++ [x] := by
  rw [List.take_add_one, h]
  rfl
theorem f103_ok (p : Bool) (l : List Ty) (fr : List Int) (h : RPre p l fr) : FunOK Tryz.prog 103 [.lst (l.map Ty.v), .lst (fr.map (V.int .i64)), .bool p] false (.inl 1 ((sortI (reachL (nxL p l) (l.length + 1) 0 fr)).map (V.int .i64))) := by
  refine fun_ok (mkE_ok zmix (cl := [(121, c121), (100, c100), (102, c102)]) (gl := [(101, [true], c101)]) [] ⟨c121_ok, c100_ok, c102_ok⟩ c101_ok) Tryz.func103 (by kernel_rfl) ?_
  refine FunW_run _ _ rfl rfl ?_
  have hfl := nodup_within h.nod h.src
  have hlen := h.len
  simp [c121_eq fr (by omega)]
  refine lp_ind (fun m t => ∃ (i : Nat) (out : List Int), t.e 0 = .lst (l.map Ty.v) ∧ t.e 2 = .bool p ∧ t.e 8 = .int .i64 i ∧ hasR t (t.e 7) 1 (out.map (V.int .i64)) ∧ Within l.length out ∧ out.Nodup ∧ i ≤ out.length ∧ m + i = l.length ∧ reachL (nxL p l) (m + 1) i out = reachL (nxL p l) (l.length + 1) 0 fr) l.length ⟨0, fr, ?_⟩ ?_
  · simp [h.src, h.nod]
  · rintro c' L hL m t ih ⟨i, out, h0, h2, h8, ⟨r, h7, hlt, hR⟩, hwi, hnd, hio, hmi, heq⟩
    have hle := nodup_within hnd hwi
    by_cases hi : i < out.length
    · have hn := List.getElem?_eq_getElem hi
      obtain ⟨x, hx, hxl, hnx⟩ := nxL_at (p := p) (hwi out[i] (List.getElem_mem hi)).1 (hwi out[i] (List.getElem_mem hi)).2
      have e100 := c100_eq x p (by have := h.fld x hxl; omega)
      simp only [Ty.v] at e100
      have hi2 : (out[i]).toNat < l.length := by have := hwi out[i] (List.getElem_mem hi); omega
      have hb := hwi out[i] (List.getElem_mem hi)
      simp [-getElem?_pos, -List.getElem_map, List.getElem?_cons_zero, List.getElem?_cons_succ, h0, h2, h8, h7, hR, hL, hi, hn, hx, hi2, hb, e100]
      have hk6 := h.fld x hxl
      have hkl : (partsL p x).length ≤ 7 := by have := baseL_len p x; simp [partsL]; omega
      refine lp_list (partsL p x) (fun j s => s.e 0 = .lst (l.map Ty.v) ∧ s.e 2 = .bool p ∧ s.e 8 = .int .i64 i ∧ s.e 28 = .int .i64 (partsL p x).length ∧ s.e 29 = .int .i64 j ∧
        ∃ q r, s.e 27 = .own q ∧ q < s.nt ∧ s.R q = some ⟨1, (partsL p x).map (V.int .i64), true⟩ ∧ s.e 7 = .own r ∧ r < s.nt ∧ s.R r = some ⟨1, (addL out ((partsL p x).take j)).map (V.int .i64), true⟩ ∧ q ≠ r) ?_ ?_ ?_
      · have hne : ¬ t.nt = r := by omega
        have hne2 : ¬ r = t.nt := by omega
        simp [h0, h2, h8, h7, hR, hne, hne2, addL]
        omega
      · rintro c2 L2 hL2 j s k hk hj ih2 ⟨g0, g2, g8, g28, g29, q, r2, g27, gq, gR, g7, gr, gR2, gne⟩
        have hw : IntKind.i64.wrap ((j : Int) + 1) = ((j + 1 : Nat) : Int) := wrap64 (by omega) (by omega)
        have hwi' : Within l.length (addL out ((partsL p x).take j)) := fun y hy => by
          rcases mem_addL.1 hy with h1 | h1
          · exact hwi y h1
          · exact h.nxt x hxl y (List.mem_of_mem_take h1)
        have hnd' := addL_nodup (ks := (partsL p x).take j) hnd
        have hle' := nodup_within hnd' hwi'
        have e102 := c102_eq (addL out ((partsL p x).take j)) k (by simp [lim]; omega)
        have hsucc : addL out ((partsL p x).take (j + 1)) = if k ∈ addL out ((partsL p x).take j) then addL out ((partsL p x).take j) else addL out ((partsL p x).take j) ++ [k] := by
          rw [take_succ_at hk, addL_append]
          rfl
        have n1 : ¬ q = s.nt := by omega
        have n2 : ¬ r2 = s.nt := by omega
        have n3 : ¬ s.nt = q := by omega
        have n4 : ¬ s.nt = r2 := by omega
        have hroom : room ⟨1, false, 8, .int .i64 0⟩ ((addL out ((partsL p x).take j)).length + 1) := by simp [room]; omega
        have hr1 : room ⟨1, false, 8, .int .i64 0⟩ 1 := by simp [room]
        generalize hO : addL out ((partsL p x).take j) = O at *
        cases hm : hasI O k
        · rw [hm] at e102
          have hkm : k ∉ O := fun hc => by rw [hasI_iff.2 hc] at hm; cases hm
          rw [if_neg hkm] at hsucc
          simp [-getElem?_pos, -List.getElem_map, List.getElem?_cons_zero, List.getElem?_cons_succ, g0, g2, g8, g28, g29, g27, gR, g7, gR2, hL2, hj, hk, e102, n1, n2, n3, n4, hroom, hr1, gne]
          refine ih2 _ ?_
          have n5 : ¬ q = s.nt + 1 := by omega
          have n6 : ¬ s.nt + 1 = q := by omega
          simp [g0, g2, g8, g28, g29, g27, gR, hw, hsucc, n1, n2, n3, n4, n5, n6, gne]
          omega
        · rw [hm] at e102
          rw [if_pos (hasI_iff.1 hm)] at hsucc
          simp [-getElem?_pos, -List.getElem_map, List.getElem?_cons_zero, List.getElem?_cons_succ, g0, g2, g8, g28, g29, g27, gR, g7, gR2, hL2, hj, hk, e102, n1, n2, n3, n4, gne]
          refine ih2 _ ?_
          simp [g0, g2, g8, g28, g29, g27, gR, g7, gR2, hw, hsucc, gq, gr, gne]
      · rintro c2 s ⟨g0, g2, g8, g28, g29, q, r2, g27, gq, gR, g7, gr, gR2, gne⟩
        rw [List.take_length] at gR2
        have hw : IntKind.i64.wrap ((i : Int) + 1) = ((i + 1 : Nat) : Int) := wrap64 (by omega) (by omega)
        simp [g0, g2, g8, g28, g29, g27, g7, hL]
        obtain ⟨ex, hex, _⟩ := addL_ext (partsL p x) out
        refine ih (m - 1) _ (by omega) ⟨i + 1, addL out (partsL p x), ?_⟩
        have hm1 : m - 1 + 1 = m := by omega
        simp [g0, g2, g8, g7, hw, gr, gR2]
        refine ⟨?_, addL_nodup hnd, ?_, by omega, ?_⟩
        · intro y hy
          rcases mem_addL.1 hy with h1 | h1
          · exact hwi y h1
          · exact h.nxt x hxl y h1
        · rw [hex]; simp; omega
        · rw [hm1, ← heq]
          conv => rhs; rw [reachL]
          rw [hn]
          simp [hnx]
    · have hn : out[i]? = none := by simp; omega
      have e101 := c101_eq out (by omega)
      have hreach : reachL (nxL p l) (l.length + 1) 0 fr = out := by
        rw [← heq, reachL, hn]
      simp [h0, h2, h8, h7, hR, hi, e101, hreach, hlt]
noncomputable def c103 := ctr (fun a : Bool × List Ty × List Int => RPre a.1 a.2.1 a.2.2) (fun a => [.lst (a.2.1.map Ty.v), .lst (a.2.2.map (V.int .i64)), .bool a.1]) (fun a => (false, .inl 1 ((sortI (reachL (nxL a.1 a.2.1) (a.2.1.length + 1) 0 a.2.2)).map (V.int .i64))))
theorem inj103 {β : Type} (out : Bool × List Ty × List Int → β) : ∀ a b : Bool × List Ty × List Int, [V.lst (a.2.1.map Ty.v), .lst (a.2.2.map (V.int .i64)), .bool a.1] = [V.lst (b.2.1.map Ty.v), .lst (b.2.2.map (V.int .i64)), .bool b.1] → out a = out b := by
  rintro ⟨a, c, e⟩ ⟨b, d, f⟩ h
  simp only [List.cons.injEq, and_true, V.lst.injEq, V.bool.injEq] at h
  rw [map_inj Ty.v_inj h.1, map_inj int_inj h.2.1, h.2.2]
theorem c103_eq (p : Bool) (l : List Ty) (fr : List Int) (h : RPre p l fr) : c103 [.lst (l.map Ty.v), .lst (fr.map (V.int .i64)), .bool p] = some (false, .inl 1 ((sortI (reachL (nxL p l) (l.length + 1) 0 fr)).map (V.int .i64))) := ctr_eq (inj103 _) (p, l, fr) h rfl
theorem c103_ok : COK Tryz.prog (103, c103) := ctr_ok fun a h => f103_ok a.1 a.2.1 a.2.2 h
end Go.TM.Tryz
end
section
set_option maxHeartbeats 2000000
set_option linter.unusedSimpArgs false
set_option linter.unusedVariables false
namespace Go.TM.Tryz
open Go Go.TM Go.Proofs
structure TPre (l : List Ty) : Prop where
  len : l.length ≤ 24
  fld : ∀ x ∈ l, x.fields.length ≤ 6
  nxt : ∀ x ∈ l, Within l.length (partsL false x)
def srcL (x : Ty) : List Int := Lib.compact (sortI (partsL false x))
theorem TPre.pre {l : List Ty} (h : TPre l) {x : Ty} (hx : x ∈ l) : RPre false l (srcL x) :=
  ⟨h.len, h.fld, h.nxt, fun y hy => h.nxt x hx y (mem_sortI.1 (mem_compact.1 hy)), compact_nodup (sortI_sorted _)⟩
def roundI (l : List Ty) (x : Ty) (n : Int) : Bool := hasI (sortI (reachL (nxL false l) (l.length + 1) 0 (srcL x))) n
theorem parts_len {l : List Ty} (h : TPre l) {x : Ty} (hx : x ∈ l) : (partsL false x).length ≤ 7 := by
  have := baseL_len false x
  have := h.fld x hx
  simp [partsL]
  omega
theorem reach_len {l : List Ty} (h : TPre l) {x : Ty} (hx : x ∈ l) : (reachL (nxL false l) (l.length + 1) 0 (srcL x)).length ≤ 24 := by
  have hp := h.pre hx
  have key := reachL_spec (nx := nxL false l) (L := l.length) (fun n h0 h1 => by
    obtain ⟨y, _, hy, e⟩ := nxL_at (p := false) h0 h1
    rw [e]
    exact h.nxt y hy) (l.length + 1) 0 (srcL x) hp.src hp.nod (Nat.zero_le _) (by omega) (by omega)
  exact Nat.le_trans (nodup_within key.2.2 key.2.1) h.len
theorem f76_ok (l : List Ty) (n : Nat) (x : Ty) (h : TPre l) (hx : l[n]? = some x) : FunOK Tryz.prog 76 [.lst (l.map Ty.v), .int .i64 n] false (.bool (roundI l x n)) := by
  refine fun_ok (mkE_ok zmix (cl := [(100, c100), (102, c102), (103, c103)]) (gl := [(101, [true], c101), (104, [true], c104)]) [] ⟨c100_ok, c102_ok, c103_ok⟩ ⟨c101_ok, c104_ok⟩) Tryz.func76 (by kernel_rfl) ?_
  refine FunW_run _ _ rfl rfl ?_
  have hxl : x ∈ l := List.mem_of_getElem? hx
  have hn : n < l.length := by
    rw [List.getElem?_eq_some_iff] at hx
    exact hx.1
  have e100 := c100_eq x false (by have := h.fld x hxl; omega)
  have e101 := c101_eq (partsL false x) (by have := parts_len h hxl; omega)
  have e104 := c104_eq (sortI (partsL false x)) (by rw [(sortI_perm _).length_eq]; have := parts_len h hxl; omega)
  have e103 := c103_eq false l (srcL x) (h.pre hxl)
  have e102 := c102_eq (sortI (reachL (nxL false l) (l.length + 1) 0 (srcL x))) n (by rw [(sortI_perm _).length_eq]; have := reach_len h hxl; simp [lim]; omega)
  simp only [Ty.v] at e100
  simp only [srcL] at e103 e102
  simp [-getElem?_pos, List.getElem?_cons_zero, List.getElem?_cons_succ, hx, hn, e100, e101, e104, e103, e102, roundI, srcL]
end Go.TM.Tryz
end
section
set_option maxHeartbeats 2000000
set_option linter.unusedSimpArgs false
set_option linter.unusedVariables false
namespace Go.TM.Tryz
open Go Go.TM Go.Proofs
theorem inB_iff {n a b : Int} : inB n a b = true ↔ a ≤ n ∧ n ≤ b := by simp [inB]
theorem mem_partsL {p : Bool} {x : Ty} {k : Int} : k ∈ partsL p x ↔ (0 ≤ x.base ∧ (p = true ∨ x.kind ≠ 6) ∧ k = x.base) ∨ ∃ f ∈ x.fields, k = f.type := by
  unfold partsL baseL
  rw [List.mem_append]
  constructor
  · rintro (h | h)
    · split at h
      · rename_i hc
        simp at hc
        simp only [List.mem_singleton] at h
        exact .inl ⟨hc.1, hc.2, h⟩
      · cases h
    · obtain ⟨f, hf, rfl⟩ := List.mem_map.1 h
      exact .inr ⟨f, hf, rfl⟩
  · rintro (⟨h1, h2, rfl⟩ | ⟨f, hf, rfl⟩)
    · left
      rw [if_pos (by simpa using ⟨h1, h2⟩)]
      simp
    · exact .inr (List.mem_map.2 ⟨f, hf, rfl⟩)
theorem fldsB_fields {n : Nat} {l : List Fld} (h : fldsB n l = true) : l.length ≤ 6 ∧ ∀ f ∈ l, 0 ≤ f.type ∧ f.type < n := by
  simp only [fldsB, Bool.and_eq_true, decide_eq_true_eq] at h
  refine ⟨h.2, fun f hf => ?_⟩
  obtain ⟨i, hi, rfl⟩ := List.mem_iff_getElem.1 hf
  have := allI_iff.1 h.1 i _ (List.getElem?_eq_getElem hi)
  simp only [fldAt, Bool.and_eq_true, inB_iff] at this
  omega
theorem typeB_parts {l : List Ty} {x : Ty} (h : typeB l x = true) : x.fields.length ≤ 6 ∧ Within l.length (partsL false x) := by
  simp only [typeB, Bool.and_eq_true, Bool.not_eq_true', Bool.and_eq_false_iff, Bool.not_eq_false', decide_eq_true_eq, decide_eq_false_iff_not] at h
  obtain ⟨⟨_, h1⟩, h2⟩ := h
  unfold typeKB at h2
  have nof : ¬x.kind = 5 → x.fields = [] := fun hk => by
    rcases h1 with h1 | h1
    · exact absurd h1 hk
    · exact List.length_eq_zero_iff.1 (by omega)
  split at h2
  · rename_i hk
    have hf := nof (by omega)
    simp only [Bool.and_eq_true, inB_iff] at h2
    refine ⟨by simp [hf], fun k hkm => ?_⟩
    rcases mem_partsL.1 hkm with ⟨h3, _, rfl⟩ | ⟨f, hff, _⟩
    · omega
    · rw [hf] at hff; cases hff
  · split at h2
    · rename_i _ hk
      simp only [Bool.and_eq_true, Bool.or_eq_true, decide_eq_true_eq] at h2
      obtain ⟨h3, h4⟩ := fldsB_fields h2.2
      refine ⟨h3, fun k hkm => ?_⟩
      rcases mem_partsL.1 hkm with ⟨h5, _, rfl⟩ | ⟨f, hff, rfl⟩
      · rcases h2.1.2 with h6 | h6
        · omega
        · simp only [kindAt, Bool.and_eq_true, inB_iff] at h6
          omega
      · exact h4 f hff
    · rename_i hk4 hk5
      have hf := nof hk5
      simp only [Bool.and_eq_true, decide_eq_true_eq] at h2
      refine ⟨by simp [hf], fun k hkm => ?_⟩
      rcases mem_partsL.1 hkm with ⟨h3, h6, rfl⟩ | ⟨f, hff, _⟩
      · simp at h6
        omega
      · rw [hf] at hff; cases hff
theorem tyEq_base {x y : Ty} (h : tyEq x y = true) (hy : y ∈ baseTys) : x.base = -1 ∧ x.fields = [] := by
  simp only [tyEq, Bool.and_eq_true, beq_iff_eq, decide_eq_true_eq] at h
  obtain ⟨⟨⟨⟨⟨_, _⟩, h1⟩, h2⟩, _⟩, _⟩ := h
  simp only [fldsEq, Bool.and_eq_true, decide_eq_true_eq] at h2
  have hy' : y.base = -1 ∧ y.fields = [] := by
    simp only [baseTys, List.mem_cons, List.not_mem_nil, or_false] at hy
    rcases hy with rfl | rfl | rfl <;> simp
  refine ⟨by omega, ?_⟩
  rw [hy'.2] at h2
  exact List.length_eq_zero_iff.1 h2.1
theorem tysEq_get {xs ys : List Ty} (h : tysEq xs ys = true) {x : Ty} (hx : x ∈ xs) : ∃ y ∈ ys, tyEq x y = true := by
  simp only [tysEq, Bool.and_eq_true, decide_eq_true_eq] at h
  obtain ⟨i, hi, rfl⟩ := List.mem_iff_getElem.1 hx
  have := allI_iff.1 h.2 i _ (List.getElem?_eq_getElem hi)
  have hiy : i < ys.length := by omega
  simp only [tyAtEq, List.getElem?_eq_getElem hiy, Option.any_some] at this
  exact ⟨_, List.getElem_mem hiy, this⟩
theorem mem_take_drop {α : Type} {l : List α} {n : Nat} {x : α} (h : x ∈ l) : x ∈ l.take n ∨ x ∈ l.drop n := by
  rw [← List.take_append_drop n l] at h
  exact List.mem_append.1 h
theorem typesB_pre {l : List Ty} (h : typesB l = true) : TPre l := by
  simp only [typesB, Bool.and_eq_true, inB_iff] at h
  obtain ⟨⟨h1, h2⟩, h3⟩ := h
  have key : ∀ x ∈ l, x.fields.length ≤ 6 ∧ Within l.length (partsL false x) := fun x hx => by
    rcases mem_take_drop (n := 3) hx with hx | hx
    · obtain ⟨y, hy, he⟩ := tysEq_get h2 hx
      obtain ⟨h4, h5⟩ := tyEq_base he hy
      refine ⟨by simp [h5], fun k hk => ?_⟩
      rcases mem_partsL.1 hk with ⟨h6, _⟩ | ⟨f, hf, _⟩
      · omega
      · rw [h5] at hf; cases hf
    · obtain ⟨i, hi, rfl⟩ := List.mem_iff_getElem.1 hx
      have := allI_iff.1 h3 i _ (List.getElem?_eq_getElem hi)
      simp only [tyAt, Bool.and_eq_true] at this
      exact typeB_parts this.2
  exact ⟨by omega, fun x hx => (key x hx).1, fun x hx => (key x hx).2⟩
noncomputable def c76 := ctr (fun a : List Ty × Nat × Ty => TPre a.1 ∧ a.1[a.2.1]? = some a.2.2) (fun a => [.lst (a.1.map Ty.v), .int .i64 a.2.1]) (fun a => (false, .bool (roundI a.1 (a.1.getD a.2.1 a.2.2) a.2.1)))
theorem c76_eq (l : List Ty) (n : Nat) (x : Ty) (h : TPre l) (hx : l[n]? = some x) : c76 [.lst (l.map Ty.v), .int .i64 n] = some (false, .bool (roundI l x n)) := by
  have hi : l.getD n x = x := by simp [List.getD_eq_getElem?_getD, hx]
  unfold c76 ctr
  have hh : ∃ a : List Ty × Nat × Ty, (TPre a.1 ∧ a.1[a.2.1]? = some a.2.2) ∧ [V.lst (a.1.map Ty.v), .int .i64 a.2.1] = [.lst (l.map Ty.v), .int .i64 n] := ⟨(l, n, x), ⟨h, hx⟩, rfl⟩
  rw [dif_pos hh]
  have h1 := hh.choose_spec
  generalize hh.choose = a at h1
  obtain ⟨a1, a2, a3⟩ := a
  obtain ⟨⟨h2, h3⟩, h4⟩ := h1
  simp only [List.cons.injEq, and_true, V.lst.injEq, V.int.injEq, true_and, Int.natCast_inj] at h4 h3
  have h5 := map_inj Ty.v_inj h4.1
  obtain rfl := h4.2
  subst h5
  rw [hx] at h3
  cases h3
  simp only [hi]
theorem c76_ok : COK Tryz.prog (76, c76) := ctr_ok fun a h => by
  have hi : a.1.getD a.2.1 a.2.2 = a.2.2 := by simp [List.getD_eq_getElem?_getD, h.2]
  simp only [hi]
  exact f76_ok a.1 a.2.1 a.2.2 h.1 h.2
def tabAt (l : List Ty) (i : Nat) (x : Ty) : Bool := !roundI l x i
def tableI (l : List Ty) : Bool := typesB l && allI (tabAt l) l l.length
theorem f54_ok (l : List Ty) (hl : limL Ty.lim l) : FunOK Tryz.prog 54 [.lst (l.map Ty.v)] false (.bool (tableI l)) := by
  refine fun_ok (mkE_ok zmix (cl := [(75, c75), (76, c76)]) (gl := []) [] ⟨c75_ok, c76_ok⟩ trivial) Tryz.func54 (by kernel_rfl) ?_
  refine FunW_run _ _ rfl rfl ?_
  have e75 := c75_eq l hl
  have hlen := hl.1
  simp only [lim] at hlen
  cases ht : typesB l
  · rw [ht] at e75
    simp [e75, tableI, ht]
  · rw [ht] at e75
    have hp := typesB_pre ht
    simp [e75]
    refine lp_list l (fun i t => t.e 0 = .lst (l.map Ty.v) ∧ t.e 8 = .int .i64 l.length ∧ t.e 9 = .int .i64 i ∧ allI (tabAt l) l i = true) ?_ ?_ ?_
    · simp
    · rintro c' L hL i t x hx hi ih ⟨h0, h8, h9, hall⟩
      have hw : IntKind.i64.wrap ((i : Int) + 1) = ((i + 1 : Nat) : Int) := wrap64 (by omega) (by omega)
      have e76 := c76_eq l i x hp hx
      cases hr : roundI l x i
      · rw [hr] at e76
        simp [-getElem?_pos, h0, h8, h9, hL, hi, e76]
        refine ih _ ?_
        simp [h0, h8, h9, hw, allI_succ hx, hall, tabAt, hr]
      · rw [hr] at e76
        have := allI_no (p := tabAt l) hx (by simp [tabAt, hr])
        simp [-getElem?_pos, h0, h8, h9, hL, hi, e76, tableI, this]
    · rintro c' t ⟨h0, h8, h9, hall⟩
      simp [h0, h8, h9, tableI, ht, hall]
noncomputable def c54 := ctr (fun l : List Ty => limL Ty.lim l) (fun l => [.lst (l.map Ty.v)]) (fun l => (false, .bool (tableI l)))
theorem c54_eq (l : List Ty) (h : limL Ty.lim l) : c54 [.lst (l.map Ty.v)] = some (false, .bool (tableI l)) := ctr_eq (injl Ty.v_inj _) l h rfl
theorem c54_ok : COK Tryz.prog (54, c54) := ctr_ok fun l h => f54_ok l h
end Go.TM.Tryz
end
section
set_option linter.unusedVariables false
set_option linter.unusedSimpArgs false
namespace Go.TM
open Go
variable {E : Env}
/-! ### a region that draws its order and makes memory, as a run -/
def planF (E : Env) (all : Array Oper) (pl : List (Nat × Bool)) (d : Option Tmp) (s : S) (K : S → Prop) (u : S) : Prop :=
  match d with
  | some d => planW E all pl u (s.put (some d) (u.e d)) K
  | none => planW E all pl u s K
def planM (E : Env) (all : Array Oper) (pl : List (Nat × Bool)) (d : Option Tmp) (u : S) (K : S → Prop) (s : S) : Prop :=
  match d with
  | some d => planW E all pl (u.put (some d) (flatC (s.e d))) s K
  | none => planW E all pl u s K
def planI (E : Env) (all : Array Oper) (pl : List (Nat × Bool)) (b : Bool) (o : Option Oper) (u s : S) (K : S → Prop) : Prop :=
  match o, b with
  | some o, false => pureOp E u o ∧ kont E [.ops true all [o]] (fun _ => planF E all pl o.dst s K) .normal u
  | some o, true => kont E [.ops false all [o]] (fun _ => planM E all pl o.dst u K) .normal s
  | none, _ => False
theorem planW_nil (all : Array Oper) (u s : S) (K : S → Prop) : planW E all [] u s K = K u := by rfl
theorem planW_cons (all : Array Oper) (i : Nat) (b : Bool) (pl : List (Nat × Bool)) (u s : S) (K : S → Prop) : planW E all ((i, b) :: pl) u s K = planI E all pl b all[i]? u s K := by
  cases b <;> cases h : all[i]? with
  | none => simp only [planW, h, planI]
  | some o =>
    simp only [planW, h, planI, kont]
    cases hd : o.dst <;> simp only [planF, planM] <;> rfl
theorem planI_pure (all : Array Oper) (pl : List (Nat × Bool)) (o : Oper) (u s : S) (K : S → Prop) : planI E all pl false (some o) u s K = (pureOp E u o ∧ kont E [.ops true all [o]] (fun _ => planF E all pl o.dst s K) .normal u) := by rfl
theorem planI_mem (all : Array Oper) (pl : List (Nat × Bool)) (o : Oper) (u s : S) (K : S → Prop) : planI E all pl true (some o) u s K = kont E [.ops false all [o]] (fun _ => planM E all pl o.dst u K) .normal s := by rfl
theorem planF_some (all : Array Oper) (pl : List (Nat × Bool)) (d : Tmp) (s : S) (K : S → Prop) (u : S) : planF E all pl (some d) s K u = planW E all pl u (s.put (some d) (u.e d)) K := by rfl
theorem planM_some (all : Array Oper) (pl : List (Nat × Bool)) (d : Tmp) (u : S) (K : S → Prop) (s : S) : planM E all pl (some d) u K s = planW E all pl (u.put (some d) (flatC (s.e d))) s K := by rfl
theorem planF_none (all : Array Oper) (pl : List (Nat × Bool)) (s : S) (K : S → Prop) (u : S) : planF E all pl none s K u = planW E all pl u s K := by rfl
theorem planM_none (all : Array Oper) (pl : List (Nat × Bool)) (u : S) (K : S → Prop) (s : S) : planM E all pl none u K s = planW E all pl u s K := by rfl
theorem aftD_some (pl : List (Nat × Bool)) (ops : Array Oper) (k : List Fr) (Q : X → S → Prop) (s : S) : aftD (some pl) ops k E Q s = planW E ops pl s.see { s.see with B := fun _ => none } fun u => kont E k Q .normal (s.after u ops) := by rfl
attribute [simp] planW_nil planW_cons planI_pure planI_mem planF_some planM_some planF_none planM_none aftD_some
@[simp] theorem vwE_str : vwE ∘ V.str = V.str := by funext x; rfl
@[simp] theorem vwE_int : vwE ∘ V.int .i64 = V.int .i64 := by funext x; rfl
theorem ctr_none {α : Type} {p : α → Prop} {enc : α → List V} {out : α → Bool × V} {args : List V} (h : ∀ a, p a → enc a ≠ args) : ctr p enc out args = none := by
  unfold ctr
  rw [dif_neg]
  rintro ⟨a, h1, h2⟩
  exact h a h1 h2
end Go.TM
end
section
set_option maxHeartbeats 4000000
set_option maxRecDepth 10000
set_option linter.unusedSimpArgs false
set_option linter.unusedVariables false
namespace Go.TM.Tryz
open Go Go.TM Go.Proofs
def scopeHd (s : Scp) : Bool := nameB s.name && (decide (s.imports.length ≤ 4) && (unlikeB (s.name :: s.imports) && (tableI s.types && (decide (s.objects.length ≤ 16) && decide (s.uses.length ≤ 40)))))
def objAtI (s : Scp) (_ : Nat) (o : Obj) : Bool := objIB s.types.length o
def useAtI (s : Scp) (i : Nat) (u : Use) : Bool := hasB s.imports u.mod && nameB u.name && !(s.uses.take i).any (sameUseB u)
def scopeI (s : Scp) : Bool := scopeHd s && allI (objAtI s) s.objects s.objects.length && allI (useAtI s) s.uses s.uses.length && unlikeB (s.imports ++ s.objects.map Obj.name)
def pl31 : List (Nat × Bool) := [(0, false), (1, false), (2, false), (3, false), (4, true), (5, false), (6, false), (7, false), (8, false), (9, false), (10, false), (11, true), (12, false), (13, false), (14, false), (15, false), (16, false), (17, false), (18, false), (20, false), (21, false), (22, false), (23, false), (19, true), (24, true), (25, true), (26, false), (27, false), (28, false), (29, false), (30, false), (31, false), (32, false), (33, true), (34, false), (35, false), (36, false), (37, false), (38, false), (39, false), (40, false), (41, true), (42, false), (43, false), (44, false), (45, false), (46, false), (47, false), (48, false), (49, true), (50, false), (51, false)]
theorem f31_ok (s : Scp) (hl : s.lim) : FunOK Tryz.prog 31 [.ladr [s.v] 0 0] false (.bool (scopeI s)) := by
  refine fun_ok (mkE_ok zmix (cl := [(40, c40), (53, c53), (54, c54), (55, c55), (56, c56), (57, c57), (58, c58)]) (gl := []) [(1, pl31)] ⟨c40_ok, c53_ok, c54_ok, c55_ok, c56_ok, c57_ok, c58_ok⟩ trivial) Tryz.func31 (by kernel_rfl) ?_
  refine FunW_run _ _ rfl rfl ?_
  obtain ⟨l1, l2, l3, l4, l5⟩ := hl
  have e40 := c40_eq s.name l1
  have e54 := c54_eq s.types l3
  have e53b : c53 [.bad] = none := ctr_none fun a _ => by simp
  have r1 : room ⟨1, false, 16, .str ⟨#[]⟩⟩ 1 := by simp [room]
  cases h1 : nameB s.name
  · rw [h1] at e40
    simp [e40, e53b, e54, scopeI, scopeHd, h1, pl31, pureOp, S.see, seeL, S.after, flatC]
  rw [h1] at e40
  by_cases h2 : ¬ s.imports.length ≤ 4
  · have h2' : (4 : Int) < s.imports.length := by omega
    simp [e40, e53b, e54, scopeI, scopeHd, h1, h2, h2', pl31, pureOp, S.see, seeL, S.after, flatC]
  have h2' : ¬ (4 : Int) < s.imports.length := by omega
  have h2 : s.imports.length ≤ 4 := by omega
  have e53 := c53_eq (s.name :: s.imports) ⟨by simp [lim]; omega, fun x hx => by
    rcases List.mem_cons.1 hx with rfl | hx
    · exact l1
    · exact l2.2 x hx⟩
  simp only [List.map_cons] at e53
  have r2 : room ⟨1, false, 16, .str ⟨#[]⟩⟩ (1 + s.imports.length) := by simp [room]; omega
  cases h3 : unlikeB (s.name :: s.imports)
  · rw [h3] at e53
    simp [e40, e53, e54, scopeI, scopeHd, h1, h2, h2', h3, r1, r2, pl31, pureOp, S.see, seeL, S.after, flatC]
  rw [h3] at e53
  cases h4 : tableI s.types
  · rw [h4] at e54
    simp [e40, e53, e54, scopeI, scopeHd, h1, h2, h2', h3, h4, r1, r2, pl31, pureOp, S.see, seeL, S.after, flatC]
  rw [h4] at e54
  by_cases h5 : ¬ s.objects.length ≤ 16
  · have h5' : (16 : Int) < s.objects.length := by omega
    simp [e40, e53, e54, scopeI, scopeHd, h1, h2, h2', h3, h4, h5, h5', r1, r2, pl31, pureOp, S.see, seeL, S.after, flatC]
  have h5' : ¬ (16 : Int) < s.objects.length := by omega
  have h5 : s.objects.length ≤ 16 := by omega
  by_cases h6 : ¬ s.uses.length ≤ 40
  · have h6' : (40 : Int) < s.uses.length := by omega
    simp [e40, e53, e54, scopeI, scopeHd, h1, h2, h2', h3, h4, h5, h5', h6, h6', r1, r2, pl31, pureOp, S.see, seeL, S.after, flatC]
  have h6' : ¬ (40 : Int) < s.uses.length := by omega
  have h6 : s.uses.length ≤ 40 := by omega
  have hd : scopeHd s = true := by simp [scopeHd, h1, h2, h3, h4, h5, h6]
  have e55 := c55_eq s.imports (by omega)
  simp [e40, e53, e54, e55, h1, h2, h2', h3, h4, h5, h5', h6, h6', r1, r2, pl31, pureOp, S.see, seeL, S.after, flatC]
  have hall : limL strLim (s.imports ++ s.objects.map Obj.name) := by
    refine ⟨by simp [lim]; omega, fun x hx => ?_⟩
    rcases List.mem_append.1 hx with hx | hx
    · exact l2.2 x hx
    · obtain ⟨o, ho, rfl⟩ := List.mem_map.1 hx
      exact (l4.2 o ho).1
  refine lp_list s.objects (fun i t => t.e 0 = .ladr [s.v] 0 0 ∧ t.e 68 = .lst (s.objects.map Obj.v) ∧ t.e 69 = .int .i64 s.objects.length ∧ t.e 70 = .int .i64 i ∧ hasR t (t.e 3) 1 ((s.imports ++ (s.objects.take i).map Obj.name).map .str) ∧ allI (objAtI s) s.objects i = true) ?_ ?_ ?_
  · simp
  · rintro c' L hL i t o hx hi ih ⟨g0, g68, g69, g70, ⟨r, g3, hlt, hR⟩, hal⟩
    have hw : IntKind.i64.wrap ((i : Int) + 1) = ((i + 1 : Nat) : Int) := wrap64 (by omega) (by omega)
    have e56 := c56_eq s o l3.1 (l4.2 o (List.mem_of_getElem? hx))
    simp only [Scp.v, Obj.v] at e56 g0
    have n1 : ¬ r = t.nt := by omega
    have n2 : ¬ r = t.nt + 1 := by omega
    have n3 : ¬ t.nt + 1 = r := by omega
    have hmin : min i s.objects.length = i := by omega
    have r3 : room ⟨1, false, 16, .str ⟨#[]⟩⟩ (s.imports.length + i + 1) := by simp [room]; omega
    cases ho : objIB s.types.length o
    · rw [ho] at e56
      have := allI_no (p := objAtI s) hx (by simp [objAtI, ho])
      simp [-getElem?_pos, List.getElem?_cons_zero, List.getElem?_cons_succ, g0, g68, g69, g70, g3, hR, hL, hi, hx, e56, scopeI, this]
    · rw [ho] at e56
      simp [-getElem?_pos, List.getElem?_cons_zero, List.getElem?_cons_succ, g0, g68, g69, g70, g3, hR, hL, hi, hx, e56, n1, n2, n3, r1, r3, hmin]
      refine ih _ ?_
      simp [g0, g68, g69, g70, hw, allI_succ hx, hal, objAtI, ho, n1, n2, n3, take_succ_at hx]
  · rintro c' t ⟨g0, g68, g69, g70, ⟨r, g3, hlt, hR⟩, hal⟩
    rw [List.take_length] at hR
    simp only [Scp.v] at g0
    simp [g0, g68, g69, g70, g3, hR]
    refine lp_list s.uses (fun i t => t.e 0 = .ladr [s.v] 0 0 ∧ t.e 87 = .lst (s.uses.map Use.v) ∧ t.e 88 = .int .i64 s.uses.length ∧ t.e 89 = .int .i64 i ∧ hasR t (t.e 3) 1 ((s.imports ++ s.objects.map Obj.name).map .str) ∧ allI (useAtI s) s.uses i = true) ?_ ?_ ?_
    · simp [g0, g3, hR, hlt]
    · rintro c2 L2 hL2 i t2 u hx hi ih ⟨k0, k87, k88, k89, ⟨r2, k3, hlt2, hR2⟩, hal2⟩
      have hw : IntKind.i64.wrap ((i : Int) + 1) = ((i + 1 : Nat) : Int) := wrap64 (by omega) (by omega)
      have hul := l5.2 u (List.mem_of_getElem? hx)
      have e57 := c57_eq s.imports u.mod l2.1
      have e40 := c40_eq u.name hul.2
      have e58 := c58_eq (s.uses.take i) u (by simp [lim]; omega)
      rw [List.map_take] at e58
      simp only [Use.v] at e58
      simp only [Scp.v] at k0
      have hii : (i : Int) ≤ s.uses.length := by omega
      have n1 : ¬ r2 = t2.nt := by omega
      have no : useAtI s i u = false → scopeI s = false := fun hn => by
        have := allI_no hx hn
        simp [scopeI, this]
      have go : ∀ s', useAtI s i u = true → s'.e 0 = .ladr [s.v] 0 0 → s'.e 87 = .lst (s.uses.map Use.v) → s'.e 88 = .int .i64 s.uses.length → s'.e 89 = .int .i64 ((i + 1 : Nat) : Int) → s'.e 3 = .own r2 → r2 < s'.nt → s'.R r2 = some ⟨1, (s.imports ++ s.objects.map Obj.name).map .str, true⟩ → L2 s' := fun s' hy a0 a1 a2 a3 a4 a5 a6 =>
        ih s' ⟨a0, a1, a2, a3, ⟨r2, a4, a5, a6⟩, by rw [allI_succ hx, hal2, hy]; rfl⟩
      cases b1 : hasB s.imports u.mod <;> cases b2 : nameB u.name <;> cases b3 : (s.uses.take i).any (sameUseB u)
      all_goals
        rw [b1] at e57
        rw [b2] at e40
        rw [b3] at e58
        simp [-getElem?_pos, List.getElem?_cons_zero, List.getElem?_cons_succ, k0, k87, k88, k89, k3, hR2, hL2, hi, hx, hii, e57, e40, e58, n1]
        first
        | (apply no; simp [useAtI, b1, b2, b3]; done)
        | (apply go <;> simp [useAtI, b1, b2, b3, k0, k87, k88, k89, k3, hR2, hw, hlt2, n1]; done)
        | skip
    · rintro c2 t2 ⟨k0, k87, k88, k89, ⟨r2, k3, hlt2, hR2⟩, hal2⟩
      have hsc : scopeI s = unlikeB (s.imports ++ s.objects.map Obj.name) := by simp [scopeI, hd, hal, hal2]
      have e53 := c53_eq _ hall
      generalize s.imports ++ s.objects.map Obj.name = nm at hsc e53 hR2
      simp [k0, k87, k88, k89, k3, hR2, hsc, e53]
noncomputable def c31 := ctr (fun s : Scp => s.lim) (fun s => [.ladr [s.v] 0 0]) (fun s => (false, .bool (scopeI s)))
theorem inj31 {β : Type} (out : Scp → β) : ∀ a b : Scp, [V.ladr [a.v] 0 0] = [V.ladr [b.v] 0 0] → out a = out b := by
  intro a b h
  simp only [List.cons.injEq, and_true, V.ladr.injEq] at h
  rw [Scp.v_inj h]
theorem c31_eq (s : Scp) (h : s.lim) : c31 [.ladr [s.v] 0 0] = some (false, .bool (scopeI s)) := ctr_eq (inj31 _) s h rfl
theorem c31_ok : COK Tryz.prog (31, c31) := ctr_ok fun s h => f31_ok s h
end Go.TM.Tryz
end
section
set_option maxHeartbeats 2000000
set_option linter.unusedSimpArgs false
set_option linter.unusedVariables false
namespace Go.TM.Tryz
open Go Go.TM Go.Proofs
def shownL (l : List Obj) : List ByteArray := (l.filter fun o => decide (0 < o.mark)).map Obj.name
def okStr (b : Bool) (l : List ByteArray) : List ByteArray := if b = true then l else []
theorem scopeI_len {s : Scp} (h : scopeI s = true) : s.imports.length ≤ 4 ∧ s.objects.length ≤ 16 ∧ s.uses.length ≤ 40 := by
  simp only [scopeI, scopeHd, Bool.and_eq_true, decide_eq_true_eq] at h
  exact ⟨h.1.1.1.2.1, h.1.1.1.2.2.2.2.1, h.1.1.1.2.2.2.2.2⟩
theorem filter_succ {α : Type} {l : List α} {i : Nat} {x : α} {p : α → Bool} (h : l[i]? = some x) : (l.take (i + 1)).filter p = (l.take i).filter p ++ (if p x = true then [x] else []) := by
  rw [take_succ_at h, List.filter_append]
  congr 1
  cases hp : p x <;> simp [hp]
theorem filter_take_le {α : Type} (l : List α) (i : Nat) (p : α → Bool) : ((l.take i).filter p).length ≤ l.length := Nat.le_trans (List.length_filter_le _ _) (by simp; omega)
theorem f9_ok (s : Scp) (hl : s.lim) : FunOK Tryz.prog 9 [s.v] false (.tup [.inl 1 ((okStr (scopeI s) (shownL s.objects)).map .str), .bool (scopeI s)]) := by
  refine fun_ok (mkE_ok zmix (cl := [(31, c31)]) (gl := []) [] c31_ok trivial) Tryz.func9 (by kernel_rfl) ?_
  refine FunW_run _ _ rfl rfl ?_
  have e31 := c31_eq s hl
  simp only [Scp.v] at e31
  cases hs : scopeI s
  · rw [hs] at e31
    simp [e31, okStr]
  · rw [hs] at e31
    obtain ⟨_, h16, _⟩ := scopeI_len hs
    have r1 : room ⟨1, false, 16, .str ⟨#[]⟩⟩ 1 := by simp [room]
    simp [e31, okStr]
    refine lp_list s.objects (fun i t => t.e 11 = .lst (s.objects.map Obj.v) ∧ t.e 12 = .int .i64 s.objects.length ∧ t.e 13 = .int .i64 i ∧ hasR t (t.e 4) 1 ((shownL (s.objects.take i)).map .str)) ?_ ?_ ?_
    · simp [shownL]
    · rintro c' L hL i t o hx hi ih ⟨g11, g12, g13, ⟨r, g4, hlt, hR⟩⟩
      have hw : IntKind.i64.wrap ((i : Int) + 1) = ((i + 1 : Nat) : Int) := wrap64 (by omega) (by omega)
      have n1 : ¬ r = t.nt := by omega
      have n2 : ¬ r = t.nt + 1 := by omega
      have hle : (shownL (s.objects.take i)).length ≤ s.objects.length := by rw [shownL, List.length_map]; exact filter_take_le _ _ _
      have r3 : room ⟨1, false, 16, .str ⟨#[]⟩⟩ ((shownL (s.objects.take i)).length + 1) := by simp [room]; omega
      have hsucc : shownL (s.objects.take (i + 1)) = shownL (s.objects.take i) ++ (if decide (0 < o.mark) = true then [o.name] else []) := by
        rw [shownL, filter_succ hx, List.map_append]
        congr 1
        split <;> rfl
      generalize shownL (s.objects.take i) = q at hR hle r3 hsucc
      by_cases hm : 0 < o.mark
      · simp [-getElem?_pos, List.getElem?_cons_zero, List.getElem?_cons_succ, g11, g12, g13, g4, hR, hL, hi, hx, hm, n1, n2, r1, r3]
        refine ih _ ?_
        simp [g11, g12, g13, hw, hsucc, hm, n1, n2]
      · simp [-getElem?_pos, List.getElem?_cons_zero, List.getElem?_cons_succ, g11, g12, g13, g4, hR, hL, hi, hx, hm, n1, n2]
        refine ih _ ?_
        simp [g11, g12, g13, g4, hR, hw, hsucc, hm, n1, n2]
        omega
    · rintro c' t ⟨g11, g12, g13, ⟨r, g4, hlt, hR⟩⟩
      rw [List.take_length] at hR
      simp [g11, g12, g13, g4, hR]
noncomputable def c9 := ctr (fun s : Scp => s.lim) (fun s => [s.v]) (fun s => (false, .tup [.inl 1 ((okStr (scopeI s) (shownL s.objects)).map .str), .bool (scopeI s)]))
theorem c9_eq (s : Scp) (h : s.lim) : c9 [s.v] = some (false, .tup [.inl 1 ((okStr (scopeI s) (shownL s.objects)).map .str), .bool (scopeI s)]) := ctr_eq (inj0 Scp.v_inj _) s h rfl
theorem c9_ok : COK Tryz.prog (9, c9) := ctr_ok fun s h => f9_ok s h
end Go.TM.Tryz
end
section
set_option maxHeartbeats 2000000
set_option linter.unusedSimpArgs false
set_option linter.unusedVariables false
namespace Go.TM.Tryz
open Go Go.TM Go.Proofs
def usesL (m : ByteArray) (l : List Use) : List ByteArray := (l.filter fun u => decide (u.mod = m)).map Use.name
theorem f16_ok (s : Scp) (m : ByteArray) (hl : s.lim) (hm : m.size ≤ lim) : FunOK Tryz.prog 16 [s.v, .str m] false (.tup [.inl 1 ((okStr (scopeI s && nameB m) (usesL m s.uses)).map .str), .bool (scopeI s && nameB m)]) := by
  refine fun_ok (mkE_ok zmix (cl := [(31, c31), (40, c40)]) (gl := []) [] ⟨c31_ok, c40_ok⟩ trivial) Tryz.func16 (by kernel_rfl) ?_
  refine FunW_run _ _ rfl rfl ?_
  have e31 := c31_eq s hl
  have e40 := c40_eq m hm
  simp only [Scp.v] at e31
  cases hs : scopeI s
  · rw [hs] at e31
    simp [e31, e40, okStr]
  rw [hs] at e31
  cases hn : nameB m
  · rw [hn] at e40
    simp [e31, e40, okStr]
  rw [hn] at e40
  obtain ⟨_, _, h40⟩ := scopeI_len hs
  have r1 : room ⟨1, false, 16, .str ⟨#[]⟩⟩ 1 := by simp [room]
  simp [e31, e40, okStr]
  refine lp_list s.uses (fun i t => t.e 1 = .str m ∧ t.e 18 = .lst (s.uses.map Use.v) ∧ t.e 19 = .int .i64 s.uses.length ∧ t.e 20 = .int .i64 i ∧ hasR t (t.e 6) 1 ((usesL m (s.uses.take i)).map .str)) ?_ ?_ ?_
  · simp [usesL]
  · rintro c' L hL i t o hx hi ih ⟨g1, g11, g12, g13, ⟨r, g4, hlt, hR⟩⟩
    have hw : IntKind.i64.wrap ((i : Int) + 1) = ((i + 1 : Nat) : Int) := wrap64 (by omega) (by omega)
    have n1 : ¬ r = t.nt := by omega
    have n2 : ¬ r = t.nt + 1 := by omega
    have hle : (usesL m (s.uses.take i)).length ≤ s.uses.length := by rw [usesL, List.length_map]; exact filter_take_le _ _ _
    have r3 : room ⟨1, false, 16, .str ⟨#[]⟩⟩ ((usesL m (s.uses.take i)).length + 1) := by simp [room]; omega
    have hsucc : usesL m (s.uses.take (i + 1)) = usesL m (s.uses.take i) ++ (if decide (o.mod = m) = true then [o.name] else []) := by
      rw [usesL, filter_succ hx, List.map_append]
      congr 1
      split <;> rfl
    generalize usesL m (s.uses.take i) = q at hR hle r3 hsucc
    by_cases hm : o.mod = m
    · simp [-getElem?_pos, List.getElem?_cons_zero, List.getElem?_cons_succ, g1, g11, g12, g13, g4, hR, hL, hi, hx, hm, n1, n2, r1, r3]
      refine ih _ ?_
      simp [g1, g11, g12, g13, hw, hsucc, hm, n1, n2]
    · simp [-getElem?_pos, List.getElem?_cons_zero, List.getElem?_cons_succ, g1, g11, g12, g13, g4, hR, hL, hi, hx, hm, n1, n2]
      refine ih _ ?_
      simp [g1, g11, g12, g13, g4, hR, hw, hsucc, hm, n1, n2]
      omega
  · rintro c' t ⟨g1, g11, g12, g13, ⟨r, g4, hlt, hR⟩⟩
    rw [List.take_length] at hR
    simp [g1, g11, g12, g13, g4, hR]
noncomputable def c16 := ctr (fun a : Scp × ByteArray => a.1.lim ∧ a.2.size ≤ lim) (fun a => [a.1.v, .str a.2]) (fun a => (false, .tup [.inl 1 ((okStr (scopeI a.1 && nameB a.2) (usesL a.2 a.1.uses)).map .str), .bool (scopeI a.1 && nameB a.2)]))
theorem c16_eq (s : Scp) (m : ByteArray) (h : s.lim) (hm : m.size ≤ lim) : c16 [s.v, .str m] = some (false, .tup [.inl 1 ((okStr (scopeI s && nameB m) (usesL m s.uses)).map .str), .bool (scopeI s && nameB m)]) := ctr_eq (inj48 _) (s, m) ⟨h, hm⟩ rfl
theorem c16_ok : COK Tryz.prog (16, c16) := ctr_ok fun a h => f16_ok a.1 a.2 h.1 h.2
end Go.TM.Tryz
end
section
set_option maxHeartbeats 4000000
set_option maxRecDepth 10000
set_option linter.unusedSimpArgs false
set_option linter.unusedVariables false
namespace Go.TM.Tryz
open Go Go.TM Go.Proofs
/-! ### spec: the types' tables -/
theorem f108_ok : FunOK Tryz.prog 108 [] false (.inl 6 (baseTys.map Ty.o)) := by
  refine fun_ok (mkE_ok zmix (cl := []) (gl := []) [] trivial trivial) Tryz.func108 (by kernel_rfl) ?_
  refine FunW_run _ _ rfl rfl ?_
  simp [baseTys]
  rfl
noncomputable def c108 := ctr (fun _ : Unit => True) (fun _ => []) (fun _ => (false, .inl 6 (baseTys.map Ty.o)))
theorem c108_eq : c108 [] = some (false, .inl 6 (baseTys.map Ty.o)) := ctr_eq (by simp) () trivial rfl
theorem c108_ok : COK Tryz.prog (108, c108) := ctr_ok fun _ _ => f108_ok
def baseAt (l : List Ty) (k : Nat) (x : Ty) : Bool := (l[k]?).any fun y => decide (y.kind = x.kind) && decide (y.long = 0) && decide (y.base = -1) && decide (y.fields = []) && decide (y.owner = ⟨#[]⟩) && decide (y.name = x.name)
theorem baseAt_no {l : List Ty} {k : Nat} {x y : Ty} (hy : l[k]? = some y) : baseAt l k x = false ↔ (((((¬y.kind = x.kind ∨ ¬y.long = 0) ∨ ¬y.base = -1) ∨ 0 < y.fields.length) ∨ ¬y.owner = ⟨#[]⟩) ∨ ¬y.name = x.name) := by
  have e : 0 < y.fields.length ↔ ¬ y.fields = [] := by cases y.fields <;> simp
  rw [e]
  simp only [baseAt, hy, Option.any_some]
  grind
def baseB (l : List Ty) : Bool := decide (3 ≤ l.length) && allI (baseAt l) baseTys baseTys.length
theorem f87_ok (l : List Ty) (hl : l.length ≤ lim) : FunOK Tryz.prog 87 [.lst (l.map Ty.v)] false (.bool (baseB l)) := by
  refine fun_ok (mkE_ok zmix (cl := [(108, c108)]) (gl := []) [] c108_ok trivial) Tryz.func87 (by kernel_rfl) ?_
  refine FunW_run _ _ rfl rfl ?_
  simp only [lim] at hl
  by_cases h3 : ¬ 3 ≤ l.length
  · have h3' : (l.length : Int) < 3 := by omega
    simp [c108_eq, baseB, h3, h3']
  have h3' : ¬ (l.length : Int) < 3 := by omega
  have h3 : 3 ≤ l.length := by omega
  simp [c108_eq, h3, h3']
  refine lp_list baseTys (fun i t => t.e 0 = .lst (l.map Ty.v) ∧ t.e 10 = .int .i64 3 ∧ t.e 11 = .int .i64 i ∧ hasR t (t.e 9) 6 (baseTys.map Ty.o) ∧ allI (baseAt l) baseTys i = true) ?_ ?_ ?_
  · simp
  · rintro c' L hL i t x hx hi ih ⟨h0, h10, h11, ⟨r, h9, hlt, hR⟩, hall⟩
    have hi3 : i < 3 := by simpa using hi
    have hw : IntKind.i64.wrap ((i : Int) + 1) = ((i + 1 : Nat) : Int) := wrap64 (by omega) (by omega)
    have hil : i < l.length := by omega
    have hy := List.getElem?_eq_getElem hil
    have hi3' : (i : Int) < 3 := by omega
    have n1 : ¬ r = t.nt := by omega
    have n2 : ¬ r = t.nt + 1 := by omega
    generalize l[i] = y at hy
    simp [-getElem?_pos, List.getElem?_cons_zero, List.getElem?_cons_succ, h0, h10, h11, h9, hR, hL, hi, hi3, hil, hx, hy, n1, n2]
    rw [if_pos hi3']
    refine ⟨hi3', ?_⟩
    split
    · rename_i hc
      have hno : baseAt l i x = false := (baseAt_no hy).2 hc
      have := allI_no hx hno
      rw [baseTys_length] at this
      simp [baseB, this]
    · rename_i hc
      have hyes : baseAt l i x = true := by rw [← Bool.not_eq_false, baseAt_no hy]; exact hc
      refine ih _ ?_
      simp [h0, h10, h11, h9, hR, hw, allI_succ hx, hall, hyes, n1, n2]
      omega
  · rintro c' t ⟨h0, h10, h11, ⟨r, h9, hlt, hR⟩, hall⟩
    rw [baseTys_length] at h11
    simp [h0, h10, h11, h9, hR, baseB, h3]
    exact hall
noncomputable def c87 := ctr (fun l : List Ty => l.length ≤ lim) (fun l => [.lst (l.map Ty.v)]) (fun l => (false, .bool (baseB l)))
theorem c87_eq (l : List Ty) (h : l.length ≤ lim) : c87 [.lst (l.map Ty.v)] = some (false, .bool (baseB l)) := ctr_eq (injl Ty.v_inj _) l h rfl
theorem c87_ok : COK Tryz.prog (87, c87) := ctr_ok fun l h => f87_ok l h
end Go.TM.Tryz
end
section
set_option maxHeartbeats 4000000
set_option maxRecDepth 10000
set_option linter.unusedSimpArgs false
set_option linter.unusedVariables false
namespace Go.TM.Tryz
open Go Go.TM Go.Proofs
def kind2B (l : List Ty) (n a b : Int) : Bool := inB n 0 (l.length - 1) && (l[n.toNat]?).any fun x => decide (x.kind = a) || decide (x.kind = b)
theorem f109_ok (l : List Ty) (n a b : Int) (hl : l.length ≤ lim) : FunOK Tryz.prog 109 [.lst (l.map Ty.v), .int .i64 n, .int .i64 a, .int .i64 b] false (.bool (kind2B l n a b)) := by
  refine fun_ok (mkE_ok zmix (cl := [(64, c64)]) (gl := []) [] c64_ok trivial) Tryz.func109 (by kernel_rfl) ?_
  refine FunW_run _ _ rfl rfl ?_
  simp only [lim] at hl
  have hw : IntKind.i64.wrap ((l.length : Int) - 1) = (l.length : Int) - 1 := wrap64 (by omega) (by omega)
  cases hb : inB n 0 (l.length - 1) with
  | true =>
    obtain ⟨h1, h2, h3, h4⟩ := inB_nat hb
    have hx := List.getElem?_eq_getElem h3
    generalize l[n.toNat] = x at hx
    by_cases ka : x.kind = a <;> by_cases kb : x.kind = b <;> simp [-getElem?_pos, List.getElem?_cons_zero, List.getElem?_cons_succ, c64_eq, hw, hx, h1, h2, h3, kind2B, hb, ka, kb]
  | false =>
    cases hx : l[n.toNat]? <;> simp [-getElem?_pos, List.getElem?_cons_zero, List.getElem?_cons_succ, c64_eq, hw, hx, kind2B, hb]
noncomputable def c109 := ctr (fun a : List Ty × Int × Int × Int => a.1.length ≤ lim) (fun a => [.lst (a.1.map Ty.v), .int .i64 a.2.1, .int .i64 a.2.2.1, .int .i64 a.2.2.2]) (fun a => (false, .bool (kind2B a.1 a.2.1 a.2.2.1 a.2.2.2)))
theorem inj109 {β : Type} (out : List Ty × Int × Int × Int → β) : ∀ a b : List Ty × Int × Int × Int, [V.lst (a.1.map Ty.v), .int .i64 a.2.1, .int .i64 a.2.2.1, .int .i64 a.2.2.2] = [V.lst (b.1.map Ty.v), .int .i64 b.2.1, .int .i64 b.2.2.1, .int .i64 b.2.2.2] → out a = out b := by
  rintro ⟨a, c, e, g⟩ ⟨b, d, f, h⟩ h
  simp only [List.cons.injEq, and_true, V.lst.injEq, V.int.injEq, true_and] at h
  obtain ⟨h1, h2, h3, h4⟩ := h
  rw [map_inj Ty.v_inj h1, h2, h3, h4]
theorem c109_eq (l : List Ty) (n a b : Int) (h : l.length ≤ lim) : c109 [.lst (l.map Ty.v), .int .i64 n, .int .i64 a, .int .i64 b] = some (false, .bool (kind2B l n a b)) := ctr_eq (inj109 _) (l, n, a, b) h rfl
theorem c109_ok : COK Tryz.prog (109, c109) := ctr_ok fun a h => f109_ok a.1 _ _ _ h
theorem f91_ok (x : Ty) (hl : x.fields.length ≤ 1048576) : FunOK Tryz.prog 91 [x.v] false (.inl 1 ((partsL false x).map (V.int .i64))) := by
  refine fun_ok (mkE_ok zmix (cl := []) (gl := []) [] trivial trivial) Tryz.func91 (by kernel_rfl) ?_
  refine FunW_run _ _ rfl rfl ?_
  have hr : room ⟨1, false, 8, .int .i64 0⟩ 1 := by simp [room]
  simp
  split
  all_goals rename_i hc
  all_goals try refine ⟨hr, ?_⟩
  all_goals
    refine lp_list x.fields (fun i t => t.e 20 = .lst (x.fields.map Fld.v) ∧ t.e 21 = .int .i64 x.fields.length ∧ t.e 22 = .int .i64 i ∧ hasR t (t.e 3) 1 ((baseL false x ++ (x.fields.take i).map Fld.type).map (V.int .i64))) ?_ ?_ ?_
    · simp [baseL, hc]
    · rintro c' L hL i t y hx hi ih ⟨h26, h27, h28, r, h5, hlt, hR⟩
      have hw : IntKind.i64.wrap ((i : Int) + 1) = ((i + 1 : Nat) : Int) := wrap64 (by omega) (by omega)
      have hr2 : room ⟨1, false, 8, .int .i64 0⟩ ((baseL false x).length + i + 1) := by have := baseL_len false x; simp [room]; omega
      have hne : ¬ r = t.nt := by omega
      have hmin : min i x.fields.length = i := by omega
      simp [-getElem?_pos, List.getElem?_cons_zero, List.getElem?_cons_succ, h26, h27, h28, h5, hR, hL, hi, hx, hr, hr2, hmin, hne]
      refine ih _ ?_
      simp [h26, h27, h28, hw, List.take_add_one, hx]
    · rintro c' t ⟨h26, h27, h28, r, h5, hlt, hR⟩
      rw [List.take_length] at hR
      have hR' : t.R r = some ⟨1, (partsL false x).map (V.int .i64), true⟩ := hR
      simp [h26, h27, h28, h5, hR']
noncomputable def c91 := ctr (fun x : Ty => x.fields.length ≤ 1048576) (fun x => [x.v]) (fun x => (false, .inl 1 ((partsL false x).map (V.int .i64))))
theorem c91_eq (x : Ty) (h : x.fields.length ≤ 1048576) : c91 [x.v] = some (false, .inl 1 ((partsL false x).map (V.int .i64))) := ctr_eq (inj0 Ty.v_inj _) x h rfl
theorem c91_ok : COK Tryz.prog (91, c91) := ctr_ok fun x h => f91_ok x h
theorem f111_ok (l : List Int) (hl : l.length ≤ 1048576) : FunOK Tryz.prog 111 [.lst (l.map (V.int .i64))] false (.inl 1 (l.map (V.int .i64))) := by
  refine fun_ok (mkE_ok zmix (cl := []) (gl := []) [] trivial trivial) Tryz.func111 (by kernel_rfl) ?_
  refine FunW_run _ _ rfl rfl ?_
  have h1 : l.length * 8 ≤ 140737488355328 := by omega
  have h2 : l.length ≤ 4294967296 := by omega
  simp [room, h1, h2]
noncomputable def c111 := ctr (fun l : List Int => l.length ≤ 1048576) (fun l => [.lst (l.map (V.int .i64))]) (fun l => (false, .inl 1 (l.map (V.int .i64))))
theorem c111_eq (l : List Int) (h : l.length ≤ 1048576) : c111 [.lst (l.map (V.int .i64))] = some (false, .inl 1 (l.map (V.int .i64))) := ctr_eq (injl int_inj _) l h rfl
theorem c111_ok : COK Tryz.prog (111, c111) := ctr_ok fun l h => f111_ok l h
theorem f89_ok (l : List Int) (s : Int) (hl : l.length ≤ lim) : FunOK Tryz.prog 89 [.lst (l.map (V.int .i64)), .int .i64 s] false (.bool (hasI l s)) := by
  refine fun_ok (mkE_ok zmix (cl := []) (gl := []) [] trivial trivial) Tryz.func89 (by kernel_rfl) ?_
  refine FunW_run _ _ rfl rfl ?_
  simp only [lim] at hl
  simp
  refine lp_list l (fun i t => t.e 1 = .int .i64 s ∧ t.e 7 = .lst (l.map (V.int .i64)) ∧ t.e 8 = .int .i64 l.length ∧ t.e 9 = .int .i64 i ∧ anyI (fun x => decide (x = s)) l i = false) ?_ ?_ ?_
  · simp
  · rintro c' L hL i t x hx hi ih ⟨h1, h7, h8, h9, hall⟩
    have hw : IntKind.i64.wrap ((i : Int) + 1) = ((i + 1 : Nat) : Int) := wrap64 (by omega) (by omega)
    simp [-getElem?_pos, List.getElem?_cons_zero, h1, h7, h8, h9, hL, hi, hx]
    split
    · rename_i hc
      exact any_yes hx (by simp [hc])
    · rename_i hc
      refine ih _ ?_
      simp [h1, h7, h8, h9, hw, anyI_succ hx, hall, hc]
  · rintro c' t ⟨h1, h7, h8, h9, hall⟩
    rw [anyI_all] at hall
    simp [h1, h7, h8, h9, hasI, hall]
noncomputable def c89 := ctr (fun a : List Int × Int => a.1.length ≤ lim) (fun a => [.lst (a.1.map (V.int .i64)), .int .i64 a.2]) (fun a => (false, .bool (hasI a.1 a.2)))
theorem c89_eq (l : List Int) (s : Int) (h : l.length ≤ lim) : c89 [.lst (l.map (V.int .i64)), .int .i64 s] = some (false, .bool (hasI l s)) := ctr_eq (injl1 int_inj _) (l, s) h rfl
theorem c89_ok : COK Tryz.prog (89, c89) := ctr_ok fun a h => f89_ok a.1 a.2 h
end Go.TM.Tryz
end
section
set_option maxHeartbeats 4000000
set_option maxRecDepth 10000
set_option linter.unusedSimpArgs false
set_option linter.unusedVariables false
namespace Go.TM.Tryz
open Go Go.TM Go.Proofs
theorem tw_get {α : Type} {p : α → Bool} : ∀ {l : List α} {i : Nat} {x : α}, (l.takeWhile p)[i]? = some x → l[i]? = some x ∧ p x = true
  | [], i, x, h => by simp at h
  | y :: ys, i, x, h => by
    rw [List.takeWhile_cons] at h
    split at h
    · rename_i hy
      cases i with
      | zero => simp at h; subst h; exact ⟨rfl, hy⟩
      | succ i => simp only [List.getElem?_cons_succ] at h ⊢; exact tw_get h
    · simp at h
theorem tw_end {α : Type} {p : α → Bool} : ∀ {l : List α} {y : α}, l[(l.takeWhile p).length]? = some y → p y = false
  | [], y, h => by simp at h
  | z :: zs, y, h => by
    rw [List.takeWhile_cons] at h
    split at h
    · simp only [List.length_cons, List.getElem?_cons_succ] at h
      exact tw_end h
    · rename_i hz
      simp at h
      subst h
      simpa using hz
theorem f112_ok (l : List Int) (n : Int) (hl : l.length ≤ 1048576) (hn : n ∉ l) : FunOK Tryz.prog 112 [.lst (l.map (V.int .i64)), .int .i64 n] false (.inl 1 ((putI l n).map (V.int .i64))) := by
  refine fun_ok (mkE_ok zmix (cl := []) (gl := []) [] trivial trivial) Tryz.func112 (by kernel_rfl) ?_
  refine FunW_run _ _ rfl rfl ?_
  have htd : l.takeWhile (fun x => decide (x < n)) ++ l.dropWhile (fun x => decide (x < n)) = l := List.takeWhile_append_dropWhile
  have hput : putI l n = l.takeWhile (fun x => decide (x < n)) ++ n :: l.dropWhile (fun x => decide (x < n)) := if_neg hn
  have hget := fun i x => @tw_get _ (fun x : Int => decide (x < n)) l i x
  have hend := fun y => @tw_end _ (fun x : Int => decide (x < n)) l y
  generalize l.takeWhile (fun x => decide (x < n)) = tw at *
  generalize l.dropWhile (fun x => decide (x < n)) = dw at *
  have hlen : tw.length + dw.length = l.length := by rw [← htd, List.length_append]
  simp
  refine lp_list tw (fun i t => t.e 0 = .lst (l.map (V.int .i64)) ∧ t.e 1 = .int .i64 n ∧ t.e 5 = .int .i64 i) ?_ ?_ ?_
  · simp
  · rintro c' L hL i t x hx hi ih ⟨g0, g1, g5⟩
    have hw : IntKind.i64.wrap ((i : Int) + 1) = ((i + 1 : Nat) : Int) := wrap64 (by omega) (by omega)
    obtain ⟨hx', hp⟩ := hget i x hx
    have hp' : x < n := by simpa using hp
    have hil : i < l.length := by omega
    simp [-getElem?_pos, List.getElem?_cons_zero, List.getElem?_cons_succ, g0, g1, g5, hL, hil, hx', hp']
    refine ih _ ?_
    simp [g0, g1, g5, hw]
  · rintro c' t ⟨g0, g1, g5⟩
    have ht : l.take tw.length = tw := by rw [← htd]; simp
    have hd : l.drop tw.length = dw := by rw [← htd]; simp
    have r1 : room ⟨1, false, 8, .int .i64 0⟩ 1 := by simp [room]
    have r2 : ∀ k, k ≤ 1048577 → room ⟨1, false, 8, .int .i64 0⟩ k := fun k hk => by simp [room]; omega
    have hle : (tw.length : Int) ≤ l.length := by omega
    by_cases hlt : tw.length < l.length
    · have hy := List.getElem?_eq_getElem hlt
      have hp := hend _ hy
      generalize l[tw.length] = y at hy hp
      have hp' : ¬ y < n := by simpa using hp
      have hne : ¬ y = n := fun e => hn (e ▸ List.mem_of_getElem? hy)
      simp [-getElem?_pos, List.getElem?_cons_zero, List.getElem?_cons_succ, g0, g1, g5, hlt, hy, hp', hne, hle, r1]
      have hmin : min tw.length l.length = tw.length := by omega
      have hlv : ∀ xs : List Int, ∀ y ∈ xs.map (V.int .i64), (leaves y).length = 1 := fun xs y hy => by
        obtain ⟨z, _, rfl⟩ := List.mem_map.1 hy
        rfl
      rw [← List.map_take, ht, ← List.map_drop, hd, hmin]
      refine ⟨⟨r2 _ (by omega), hlv _⟩, r2 _ (by omega), ⟨r2 _ (by omega), hlv _⟩, ?_⟩
      rw [hput]
      simp
    · simp [-getElem?_pos, List.getElem?_cons_zero, List.getElem?_cons_succ, g0, g1, g5, hlt, hle, r1]
      have hmin : min tw.length l.length = tw.length := by omega
      have hlv : ∀ xs : List Int, ∀ y ∈ xs.map (V.int .i64), (leaves y).length = 1 := fun xs y hy => by
        obtain ⟨z, _, rfl⟩ := List.mem_map.1 hy
        rfl
      rw [← List.map_take, ht, ← List.map_drop, hd, hmin]
      refine ⟨⟨r2 _ (by omega), hlv _⟩, r2 _ (by omega), ⟨r2 _ (by omega), hlv _⟩, ?_⟩
      rw [hput]
      simp
noncomputable def c112 := ctr (fun a : List Int × Int => a.1.length ≤ 1048576 ∧ a.2 ∉ a.1) (fun a => [.lst (a.1.map (V.int .i64)), .int .i64 a.2]) (fun a => (false, .inl 1 ((putI a.1 a.2).map (V.int .i64))))
theorem c112_eq (l : List Int) (s : Int) (h : l.length ≤ 1048576) (hn : s ∉ l) : c112 [.lst (l.map (V.int .i64)), .int .i64 s] = some (false, .inl 1 ((putI l s).map (V.int .i64))) := ctr_eq (injl1 int_inj _) (l, s) ⟨h, hn⟩ rfl
theorem c112_ok : COK Tryz.prog (112, c112) := ctr_ok fun a h => f112_ok a.1 a.2 h.1 h.2
end Go.TM.Tryz
end
section
set_option maxHeartbeats 4000000
set_option maxRecDepth 10000
set_option linter.unusedSimpArgs false
set_option linter.unusedVariables false
namespace Go.TM.Tryz
open Go Go.TM Go.Proofs
theorem f90_ok (l : List Ty) (fr : List Int) (h : TPre l) (hfr : fr.length ≤ 7) (hw : Within l.length fr) : FunOK Tryz.prog 90 [.lst (l.map Ty.v), .lst (fr.map (V.int .i64)), .bool false] false (.inl 1 ((fromL (nxL false l) 200 fr []).map (V.int .i64))) := by
  refine fun_ok (mkE_ok zmix (cl := [(111, c111), (89, c89), (112, c112), (91, c91)]) (gl := []) [] ⟨c111_ok, c89_ok, c112_ok, c91_ok⟩ trivial) Tryz.func90 (by kernel_rfl) ?_
  refine FunW_run _ _ rfl rfl ?_
  have hlen := h.len
  simp [c111_eq fr (by omega)]
  refine lp_ind (fun m t => ∃ q out : List Int, t.e 0 = .lst (l.map Ty.v) ∧ t.e 2 = .bool false ∧ Within l.length q ∧ Within l.length out ∧ out.Nodup ∧ q.length + 8 * (l.length - out.length) < m ∧ m ≤ 200 ∧ fromL (nxL false l) m q out = fromL (nxL false l) 200 fr [] ∧
    ∃ a b, t.e 8 = .own a ∧ a < t.nt ∧ t.R a = some ⟨1, q.map (V.int .i64), true⟩ ∧ t.e 7 = .own b ∧ b < t.nt ∧ t.R b = some ⟨1, out.map (V.int .i64), true⟩ ∧ a ≠ b) 200 ⟨fr, [], ?_⟩ ?_
  · simp [hw]
    exact ⟨fun _ h => (by cases h), by omega⟩
  · rintro c' L hL m t ih ⟨q, out, g0, g2, hq, ho, hnd, hm, hm2, heq, a, b, g8, ha, hRa, g7, hb, hRb, hab⟩
    have hle := nodup_within hnd ho
    obtain ⟨m, rfl⟩ : ∃ k, m = k + 1 := ⟨m - 1, by omega⟩
    cases q with
    | nil =>
      have hres : fromL (nxL false l) 200 fr [] = out := by rw [← heq]; rfl
      simp [g0, g2, g8, g7, hRa, hRb, hL, hres]
    | cons n q =>
      have hn := hq n (by simp)
      have hq' : Within l.length q := fun y hy => hq y (by simp [hy])
      simp only [List.length_cons] at hm
      obtain ⟨x, hx, hxl, hnx⟩ := nxL_at (p := false) hn.1 hn.2
      have hn2 : n.toNat < l.length := by omega
      have e89 := c89_eq out n (by simp [lim]; omega)
      have hba : ¬ b = a := fun e => hab e.symm
      have n1 : ¬ a = t.nt := by omega
      have n2 : ¬ b = t.nt := by omega
      have n3 : ¬ t.nt = a := by omega
      have n4 : ¬ t.nt = b := by omega
      cases hh : hasI out n
      · rw [hh] at e89
        have hno : n ∉ out := fun hc => by rw [hasI_iff.2 hc] at hh; cases hh
        have e112 := c112_eq out n (by omega) hno
        have e91 := c91_eq x (by have := h.fld x hxl; omega)
        simp only [Ty.v] at e91
        have hk7 := parts_len h hxl
        have hr : room ⟨1, false, 8, .int .i64 0⟩ (q.length + (partsL false x).length) := by simp [room]; omega
        have n5 : ¬ b = t.nt + 1 := by omega
        have n6 : ¬ t.nt = t.nt + 1 := by omega
        have n7 : ¬ t.nt = t.nt + 1 + 1 := by omega
        have n8 : ¬ t.nt + 1 = t.nt + 1 + 1 + 1 := by omega
        have n9 : ¬ t.nt + 1 = t.nt + 1 + 1 := by omega
        simp [-getElem?_pos, List.getElem?_cons_zero, List.getElem?_cons_succ, g0, g2, g8, hRa, g7, hRb, hL, e89, e112, e91, hn, hn2, hx, hab, hba, n1, n2, n3, n4, n5, n6, n7, n8, n9, hr]
        refine ⟨by omega, ?_⟩
        have hol := putI_length hno
        have hbo : Within l.length (putI out n) := fun y hy => by
          rcases mem_putI.1 hy with rfl | h1
          · exact hn
          · exact ho y h1
        have hle2 := nodup_within (putI_nodup (n := n) hnd) hbo
        have hfrom : fromL (nxL false l) m (q ++ partsL false x) (putI out n) = fromL (nxL false l) 200 fr [] := by
          rw [← heq]
          show _ = if n ∈ out then _ else _
          rw [if_neg hno, hnx]
        refine ih m _ (by omega) ⟨q ++ partsL false x, putI out n, ?_⟩
        simp [g0, g2, hbo, putI_nodup hnd, hfrom, n1, n2, n3, n4, n5, n6, n7, n8, n9]
        refine ⟨?_, by omega, by omega⟩
        intro y hy
        rcases List.mem_append.1 hy with h1 | h1
        · exact hq' y h1
        · exact h.nxt x hxl y h1
      · rw [hh] at e89
        simp [-getElem?_pos, List.getElem?_cons_zero, List.getElem?_cons_succ, g0, g2, g8, hRa, g7, hRb, hL, e89, hab, hba, n1, n2, n3, n4]
        refine ⟨by omega, ?_⟩
        have hfrom : fromL (nxL false l) m q out = fromL (nxL false l) 200 fr [] := by
          rw [← heq]
          show _ = if n ∈ out then _ else _
          rw [if_pos (hasI_iff.1 hh)]
        refine ih m _ (by omega) ⟨q, out, ?_⟩
        simp [g0, g2, g7, hRb, hq', ho, hnd, hfrom, n1, n2, n3, n4, hba]
        omega
noncomputable def c90 := ctr (fun a : List Ty × List Int => TPre a.1 ∧ a.2.length ≤ 7 ∧ Within a.1.length a.2) (fun a => [.lst (a.1.map Ty.v), .lst (a.2.map (V.int .i64)), .bool false]) (fun a => (false, .inl 1 ((fromL (nxL false a.1) 200 a.2 []).map (V.int .i64))))
theorem inj90 {β : Type} (out : List Ty × List Int → β) : ∀ a b : List Ty × List Int, [V.lst (a.1.map Ty.v), .lst (a.2.map (V.int .i64)), .bool false] = [V.lst (b.1.map Ty.v), .lst (b.2.map (V.int .i64)), .bool false] → out a = out b := by
  rintro ⟨a, c⟩ ⟨b, d⟩ h
  simp only [List.cons.injEq, and_true, V.lst.injEq] at h
  rw [map_inj Ty.v_inj h.1, map_inj int_inj h.2]
theorem c90_eq (l : List Ty) (fr : List Int) (h : TPre l) (h1 : fr.length ≤ 7) (h2 : Within l.length fr) : c90 [.lst (l.map Ty.v), .lst (fr.map (V.int .i64)), .bool false] = some (false, .inl 1 ((fromL (nxL false l) 200 fr []).map (V.int .i64))) := ctr_eq (inj90 _) (l, fr) ⟨h, h1, h2⟩ rfl
theorem c90_ok : COK Tryz.prog (90, c90) := ctr_ok fun a h => f90_ok a.1 a.2 h.1 h.2.1 h.2.2
/-! ### both ways lead to the same numbers -/
theorem nxL_pre {l : List Ty} (h : TPre l) (n : Int) (h0 : 0 ≤ n) (h1 : n < l.length) : (nxL false l n).length ≤ 7 ∧ Within l.length (nxL false l n) := by
  obtain ⟨y, _, hy, e⟩ := nxL_at (p := false) h0 h1
  rw [e]
  exact ⟨parts_len h hy, h.nxt y hy⟩
theorem from_mem {l : List Ty} (h : TPre l) {fr : List Int} (h1 : fr.length ≤ 7) (h2 : Within l.length fr) (n : Int) : n ∈ fromL (nxL false l) 200 fr [] ↔ Rch (nxL false l) fr n := by
  have hlen := h.len
  rw [fromL_mem (nxL_pre h) 200 fr [] h2 (fun _ h => (by cases h)) (by simp) (by simp; omega) (fun _ h => (by cases h)) n]
  simp
theorem from_len {l : List Ty} (h : TPre l) {fr : List Int} (h1 : fr.length ≤ 7) (h2 : Within l.length fr) : (fromL (nxL false l) 200 fr []).length ≤ lim := by
  have key : ∀ (f : Nat) (q out : List Int), out.length + f ≤ 10000 → (fromL (nxL false l) f q out).length ≤ 10000 := by
    intro f
    induction f with
    | zero => intro q out h; simp only [fromL]; omega
    | succ f ih =>
      intro q out h
      cases q with
      | nil => simp only [fromL]; omega
      | cons n q =>
        simp only [fromL]
        split
        · exact ih _ _ (by omega)
        · rename_i hn
          exact ih _ _ (by rw [putI_length hn]; omega)
  have := key 200 fr [] (by simp)
  simp only [lim]
  omega
theorem parts_in {l : List Ty} (h : TPre l) {x : Ty} (hx : x ∈ l) : Within l.length (partsL false x) := h.nxt x hx
theorem round_eq {l : List Ty} (h : TPre l) {x : Ty} (hx : x ∈ l) (n : Int) : hasI (fromL (nxL false l) 200 (partsL false x) []) n = roundI l x n := by
  have hp := h.pre hx
  have key := (reachL_spec (nx := nxL false l) (L := l.length) (fun n h0 h1 => (nxL_pre h n h0 h1).2) (l.length + 1) 0 (srcL x) hp.src hp.nod (Nat.zero_le _) (by omega) (by omega)).1
  rw [Bool.eq_iff_iff, roundI, hasI_iff, hasI_iff, mem_sortI, key, from_mem h (parts_len h hx) (h.nxt x hx)]
  constructor
  · exact fun h => h.mono fun y hy => .base (mem_compact.2 (mem_sortI.2 hy))
  · exact fun h => h.mono fun y hy => .base (mem_sortI.1 (mem_compact.1 hy))
theorem f72_ok (l : List Ty) (n : Nat) (x : Ty) (h : TPre l) (hx : l[n]? = some x) : FunOK Tryz.prog 72 [.lst (l.map Ty.v), .int .i64 n] false (.bool (roundI l x n)) := by
  refine fun_ok (mkE_ok zmix (cl := [(91, c91), (90, c90), (89, c89)]) (gl := []) [] ⟨c91_ok, c90_ok, c89_ok⟩ trivial) Tryz.func72 (by kernel_rfl) ?_
  refine FunW_run _ _ rfl rfl ?_
  have hxl : x ∈ l := List.mem_of_getElem? hx
  have hn : n < l.length := by
    rw [List.getElem?_eq_some_iff] at hx
    exact hx.1
  have e91 := c91_eq x (by have := h.fld x hxl; omega)
  have e90 := c90_eq l (partsL false x) h (parts_len h hxl) (h.nxt x hxl)
  have e89 := c89_eq (fromL (nxL false l) 200 (partsL false x) []) n (from_len h (parts_len h hxl) (h.nxt x hxl))
  rw [round_eq h hxl] at e89
  simp only [Ty.v] at e91
  simp [-getElem?_pos, List.getElem?_cons_zero, List.getElem?_cons_succ, hx, hn, e91, e90, e89]
noncomputable def c72 := ctr (fun a : List Ty × Nat × Ty => TPre a.1 ∧ a.1[a.2.1]? = some a.2.2) (fun a => [.lst (a.1.map Ty.v), .int .i64 a.2.1]) (fun a => (false, .bool (roundI a.1 (a.1.getD a.2.1 a.2.2) a.2.1)))
theorem c72_eq (l : List Ty) (n : Nat) (x : Ty) (h : TPre l) (hx : l[n]? = some x) : c72 [.lst (l.map Ty.v), .int .i64 n] = some (false, .bool (roundI l x n)) := c76_eq l n x h hx
theorem c72_ok : COK Tryz.prog (72, c72) := ctr_ok fun a h => by
  have hi : a.1.getD a.2.1 a.2.2 = a.2.2 := by simp [List.getD_eq_getElem?_getD, h.2]
  simp only [hi]
  exact f72_ok a.1 a.2.1 a.2.2 h.1 h.2
end Go.TM.Tryz
end
section
set_option maxHeartbeats 4000000
set_option maxRecDepth 10000
set_option linter.unusedSimpArgs false
set_option linter.unusedVariables false
namespace Go.TM.Tryz
open Go Go.TM Go.Proofs
theorem nameB_nil : nameB ⟨#[]⟩ = false := by simp [nameB, inB, ByteArray.size]
theorem fldAt_head {n : Int} {l : List Fld} {i : Nat} {x : Fld} (h : ((nameB x.name = false ∧ (¬x.name = ⟨#[]⟩ ∨ ¬x.mark = 0)) ∨ inB x.mark 0 2 = false) ∨ inB x.type 0 (n - 1) = false) : fldAt n l i x = false := by
  unfold fldAt
  rcases h with (⟨h1, h2⟩ | h) | h
  · by_cases e : x.name = ⟨#[]⟩
    · rw [if_pos e]
      rcases h2 with h2 | h2
      · exact absurd e h2
      · simp [h2]
    · rw [if_neg e, h1]
      simp
  · simp [h]
  · simp [h]
theorem fldAt_tail {n : Int} {l : List Fld} {i : Nat} {x : Fld} (h : ¬(((nameB x.name = false ∧ (¬x.name = ⟨#[]⟩ ∨ ¬x.mark = 0)) ∨ inB x.mark 0 2 = false) ∨ inB x.type 0 (n - 1) = false)) : fldAt n l i x = !((l.take i).any fun y => !decide (x.name = ⟨#[]⟩) && sameFldB x y) := by
  simp only [not_or, Bool.not_eq_false] at h
  obtain ⟨⟨h1, h2⟩, h3⟩ := h
  unfold fldAt
  rw [h2, h3]
  by_cases e : x.name = ⟨#[]⟩
  · rw [if_pos e]
    have hm : x.mark = 0 := by
      rw [e, nameB_nil] at h1
      simpa using h1
    simp [e, hm]
  · rw [if_neg e]
    have hn : nameB x.name = true := by
      simp only [not_and, not_or] at h1
      rw [← Bool.not_eq_false]
      exact fun hc => (h1 hc).1 e
    simp [hn, e]
theorem f110_ok (ts : List Ty) (l : List Fld) (ht : ts.length ≤ lim) (hl : limL Fld.lim l) : FunOK Tryz.prog 110 [.lst (ts.map Ty.v), .lst (l.map Fld.v)] false (.bool (fldsB ts.length l)) := by
  refine fun_ok (mkE_ok zmix (cl := [(39, c39), (64, c64)]) (gl := []) [] ⟨c39_ok, c64_ok⟩ trivial) Tryz.func110 (by kernel_rfl) ?_
  refine FunW_run _ _ rfl rfl ?_
  have hlen := hl.1
  simp only [lim] at hlen ht
  have hwn : IntKind.i64.wrap ((ts.length : Int) - 1) = (ts.length : Int) - 1 := wrap64 (by omega) (by omega)
  simp
  refine lp_list l (fun i t => t.e 0 = .lst (ts.map Ty.v) ∧ t.e 1 = .lst (l.map Fld.v) ∧ t.e 9 = .lst (l.map Fld.v) ∧ t.e 10 = .int .i64 l.length ∧ t.e 11 = .int .i64 i ∧ allI (fldAt ts.length l) l i = true) ?_ ?_ ?_
  · simp
  · rintro c' L hL i t x hx hi ih ⟨h0, h1, h9, h10, h11, hall⟩
    have hw : IntKind.i64.wrap ((i : Int) + 1) = ((i + 1 : Nat) : Int) := wrap64 (by omega) (by omega)
    have e1 := c39_eq x.name (hl.2 x (List.mem_of_getElem? hx))
    have hle : i ≤ l.length := Nat.le_of_lt hi
    have hle' : (i : Int) ≤ l.length := by omega
    have bad : fldAt ts.length l i x = false → fldsB ts.length l = false := fun hn => by
      have := allI_no hx hn
      simp [fldsB, this]
    simp [-getElem?_pos, List.getElem?_cons_zero, List.getElem?_cons_succ, h0, h1, h9, h10, h11, hL, hi, hx, e1, hwn, c64_eq, hle, hle']
    split
    · rename_i hc
      exact bad (fldAt_head hc)
    · rename_i hc
      have htail := fldAt_tail (l := l) (i := i) hc
      refine lp_list (l.take i) (fun j s => s.e 0 = .lst (ts.map Ty.v) ∧ s.e 1 = .lst (l.map Fld.v) ∧ s.e 9 = .lst (l.map Fld.v) ∧ s.e 10 = .int .i64 l.length ∧ s.e 11 = .int .i64 i ∧ s.e 47 = .lst ((l.take i).map Fld.v) ∧ s.e 48 = .int .i64 i ∧ s.e 49 = .int .i64 j ∧
        (∃ b, s.e 6 = .ptr b 0 ∧ b < s.nb ∧ s.B b = some x.v) ∧ anyI (fun y => !decide (x.name = ⟨#[]⟩) && sameFldB x y) (l.take i) j = false) ?_ ?_ ?_
      · simp [h0, h1, h9, h10, h11, hle]
      · rintro c2 L2 hL2 j s y hy hj ih2 ⟨g0, g1, g9, g10, g11, g47, g48, g49, ⟨b, g6, gb, gB⟩, hany⟩
        have hji : j < i := by simp at hj; omega
        have hjl : j < (l.take i).length := hj
        have hw2 : IntKind.i64.wrap ((j : Int) + 1) = ((j + 1 : Nat) : Int) := wrap64 (by omega) (by omega)
        have n1 : ¬ b = s.nb := by omega
        generalize l.take i = ys at *
        simp only [Fld.v] at gB
        simp [-getElem?_pos, List.getElem?_cons_zero, List.getElem?_cons_succ, g0, g1, g9, g10, g11, g47, g48, g49, g6, gB, hL2, hjl, hji, hy, n1]
        split
        · rename_i hf
          have hany2 := any_yes (p := fun y => !decide (x.name = ⟨#[]⟩) && sameFldB x y) hy (by simp [hf.1, sameFldB, hf.2.symm])
          exact bad (by rw [htail, hany2]; rfl)
        · rename_i hf
          have hno : (!decide (x.name = ⟨#[]⟩) && sameFldB x y) = false := by
            simp only [sameFldB]
            by_cases e : x.name = ⟨#[]⟩
            · simp [e]
            · have : ¬ y.name = x.name := fun h => hf ⟨e, h.symm⟩
              simp [this]
          refine ih2 _ ?_
          simp [g0, g1, g9, g10, g11, g47, g48, g49, g6, gB, hw2, anyI_succ hy, hany, hno, n1]
          omega
      · rintro c2 s ⟨g0, g1, g9, g10, g11, g47, g48, g49, ⟨b, g6, gb, gB⟩, hany⟩
        rw [anyI_all] at hany
        have hlt : (l.take i).length = i := by simp; omega
        rw [hlt] at g49
        simp [g0, g1, g9, g10, g11, g47, g48, g49, hL]
        have hyes : fldAt ts.length l i x = true := by rw [htail, hany]; rfl
        refine ih _ ?_
        simp [g0, g1, g9, g10, g11, hw, allI_succ hx, hall, hyes]
  · rintro c' t ⟨h0, h1, h9, h10, h11, hall⟩
    simp [h0, h1, h9, h10, h11, fldsB, hall]
    omega
noncomputable def c110 := ctr (fun a : List Ty × List Fld => a.1.length ≤ lim ∧ limL Fld.lim a.2) (fun a => [.lst (a.1.map Ty.v), .lst (a.2.map Fld.v)]) (fun a => (false, .bool (fldsB a.1.length a.2)))
theorem c110_eq (ts : List Ty) (l : List Fld) (h : ts.length ≤ lim) (h2 : limL Fld.lim l) : c110 [.lst (ts.map Ty.v), .lst (l.map Fld.v)] = some (false, .bool (fldsB ts.length l)) := ctr_eq (inj117 _) (ts, l) ⟨h, h2⟩ rfl
theorem c110_ok : COK Tryz.prog (110, c110) := ctr_ok fun a h => f110_ok a.1 a.2 h.1 h.2
theorem kind2_eq (l : List Ty) (n a b : Int) : kind2B l n a b = (kindAt l n a || kindAt l n b) := by
  unfold kind2B kindAt
  cases inB n 0 (l.length - 1) <;> cases l[n.toNat]? <;> simp
theorem f88_ok (ts : List Ty) (x : Ty) (ht : ts.length ≤ lim) (hl : x.lim) : FunOK Tryz.prog 88 [.lst (ts.map Ty.v), x.v] false (.bool (typeB ts x)) := by
  refine fun_ok (mkE_ok zmix (cl := [(39, c39), (64, c64), (109, c109), (110, c110)]) (gl := []) [] ⟨c39_ok, c64_ok, c109_ok, c110_ok⟩ trivial) Tryz.func88 (by kernel_rfl) ?_
  refine FunW_run _ _ rfl rfl ?_
  have e1 := c39_eq x.name hl.2.2
  have e2 := c39_eq x.owner hl.2.1
  have e3 := c110_eq ts x.fields ht hl.1
  have e4 := c109_eq ts x.base 5 5 ht
  have e5 := c109_eq ts x.base 5 4 ht
  rw [kind2_eq] at e4 e5
  simp only [lim] at ht
  have hwn : IntKind.i64.wrap ((ts.length : Int) - 1) = (ts.length : Int) - 1 := wrap64 (by omega) (by omega)
  have hf : 0 < x.fields.length ↔ ¬ x.fields = [] := by cases x.fields <;> simp
  simp [e1, e2, e3, e4, e5, hwn, c64_eq]
  clear e1 e2 e3 e4 e5 hwn hf hl ht
  unfold typeB typeKB namedB
  generalize nameB x.name = a
  generalize nameB x.owner = b
  generalize kindAt ts x.base 5 = k5
  generalize kindAt ts x.base 4 = k4
  generalize fldsB ts.length x.fields = fb
  generalize inB x.long 1 1000 = ib
  generalize inB x.base 0 (ts.length - 1) = ic
  grind
noncomputable def c88 := ctr (fun a : List Ty × Ty => a.1.length ≤ lim ∧ a.2.lim) (fun a => [.lst (a.1.map Ty.v), a.2.v]) (fun a => (false, .bool (typeB a.1 a.2)))
theorem c88_eq (ts : List Ty) (x : Ty) (h : ts.length ≤ lim) (h2 : x.lim) : c88 [.lst (ts.map Ty.v), x.v] = some (false, .bool (typeB ts x)) := ctr_eq (inj99 _) (ts, x) ⟨h, h2⟩ rfl
theorem c88_ok : COK Tryz.prog (88, c88) := ctr_ok fun a h => f88_ok a.1 a.2 h.1 h.2
end Go.TM.Tryz
end
section
set_option maxHeartbeats 4000000
set_option maxRecDepth 10000
set_option linter.unusedSimpArgs false
set_option linter.unusedVariables false
namespace Go.TM.Tryz
open Go Go.TM Go.Proofs
theorem fldsEq_nil (xs : List Fld) : fldsEq xs [] = decide (xs = []) := by
  cases xs with
  | nil => simp [fldsEq, allI]
  | cons x xs => simp [fldsEq]
theorem baseAt_eq {l : List Ty} {k : Nat} {x y : Ty} (hx : x ∈ baseTys) (hy : l[k]? = some y) : baseAt l k x = tyEq y x := by
  have hf : x.long = 0 ∧ x.base = -1 ∧ x.fields = [] ∧ x.owner = ⟨#[]⟩ := by
    simp only [baseTys, List.mem_cons, List.not_mem_nil, or_false] at hx
    rcases hx with rfl | rfl | rfl <;> simp
  obtain ⟨h1, h2, h3, h4⟩ := hf
  simp only [baseAt, hy, Option.any_some, tyEq, h1, h2, h3, h4, fldsEq_nil]
  rfl
theorem base_eq {l : List Ty} (h : 3 ≤ l.length) : allI (baseAt l) baseTys baseTys.length = tysEq (l.take 3) baseTys := by
  have h3 : (l.take 3).length = 3 := by simp; omega
  rw [Bool.eq_iff_iff, allI_iff, tysEq, Bool.and_eq_true, allI_iff]
  constructor
  · intro hh
    refine ⟨by simp [h3], fun i y hy => ?_⟩
    have hi : i < 3 := by
      rw [List.getElem?_eq_some_iff] at hy
      have := hy.1
      omega
    have hib : i < baseTys.length := hi
    have hx := List.getElem?_eq_getElem hib
    have hyl : l[i]? = some y := by
      rw [List.getElem?_take, if_pos hi] at hy
      exact hy
    simp only [tyAtEq, hx, Option.any_some]
    rw [← baseAt_eq (List.getElem_mem hib) hyl]
    exact hh i _ hx
  · rintro ⟨_, hh⟩ i x hx
    have hi : i < 3 := by
      rw [List.getElem?_eq_some_iff] at hx
      exact hx.1
    have hil : i < l.length := by omega
    have hy := List.getElem?_eq_getElem hil
    rw [baseAt_eq (List.mem_of_getElem? hx) hy]
    have := hh i l[i] (by rw [List.getElem?_take, if_pos hi]; exact hy)
    simpa only [tyAtEq, hx, Option.any_some] using this
theorem f71_ok (l : List Ty) (hl : limL Ty.lim l) : FunOK Tryz.prog 71 [.lst (l.map Ty.v)] false (.bool (typesB l)) := by
  refine fun_ok (mkE_ok zmix (cl := [(87, c87), (88, c88)]) (gl := []) [] ⟨c87_ok, c88_ok⟩ trivial) Tryz.func71 (by kernel_rfl) ?_
  refine FunW_run _ _ rfl rfl ?_
  have hlen := hl.1
  have e87 := c87_eq l hlen
  simp only [lim] at hlen
  cases hb : baseB l
  · have : typesB l = false := by
      simp only [baseB, Bool.and_eq_false_iff, decide_eq_false_iff_not] at hb
      simp only [typesB, Bool.and_eq_false_iff, inB, decide_eq_false_iff_not]
      by_cases h3 : 3 ≤ l.length
      · rw [base_eq h3] at hb
        rcases hb with hb | hb
        · exact absurd h3 hb
        · exact .inl (.inr hb)
      · left; left; left; omega
    rw [hb] at e87
    simp [e87, this]
  have hbe := hb
  rw [hb] at e87
  have h3 : 3 ≤ l.length := by
    simp only [baseB, Bool.and_eq_true, decide_eq_true_eq] at hb
    exact hb.1
  have hte : tysEq (l.take 3) baseTys = true := by
    simp only [baseB, Bool.and_eq_true, decide_eq_true_eq] at hb
    rw [← base_eq h3]
    exact hb.2
  by_cases h24 : (24 : Int) < l.length
  · have : typesB l = false := by
      simp only [typesB, Bool.and_eq_false_iff, inB, decide_eq_false_iff_not]
      left; left; right; omega
    simp [e87, h24, this]
  have htb : typesB l = allI (tyAt l) (l.drop 3) (l.drop 3).length := by
    have : inB l.length 3 24 = true := by simp [inB]; omega
    rw [typesB, this, hte]
    rfl
  have h3' : (3 : Int) ≤ l.length := by omega
  simp [e87, h24, h3']
  obtain ⟨q, hq⟩ : ∃ q, q = l.drop 3 := ⟨_, rfl⟩
  have hql : q.length = l.length - 3 := by rw [hq]; simp
  rw [← hq] at htb
  refine lp_list q (fun i t => t.e 0 = .lst (l.map Ty.v) ∧ t.e 16 = .lst (q.map Ty.v) ∧ t.e 17 = .int .i64 q.length ∧ t.e 18 = .int .i64 i ∧ allI (tyAt l) q i = true) ?_ ?_ ?_
  · subst hq
    simp
  · rintro c' L hL i t x hx hi ih ⟨h0, h16, h17, h18, hall⟩
    have hw : IntKind.i64.wrap ((i : Int) + 1) = ((i + 1 : Nat) : Int) := wrap64 (by omega) (by omega)
    have hw3 : IntKind.i64.wrap (3 + (i : Int)) = ((3 + i : Nat) : Int) := wrap64 (by omega) (by omega)
    have hxl : x ∈ l := List.mem_of_mem_drop (i := 3) (hq ▸ List.mem_of_getElem? hx)
    have e88 := c88_eq l x hl.1 (hl.2 x hxl)
    simp only [Ty.v] at e88
    have h3i : (3 + (i : Int)) ≤ l.length := by omega
    have a1 : (3 : Int) ≤ 3 + i := by omega
    have a2 : (3 + (i : Int)).toNat = 3 + i := by omega
    have no : tyAt l i x = false → typesB l = false := fun hn => by
      have := allI_no hx hn
      rw [htb, this]
    cases hy : typeB l x
    · rw [hy] at e88
      have := no (by simp [tyAt, hy])
      simp [-getElem?_pos, List.getElem?_cons_zero, List.getElem?_cons_succ, h0, h16, h17, h18, hL, hi, hx, e88, this]
    rw [hy] at e88
    obtain ⟨p, hp⟩ : ∃ p, p = (l.take (3 + i)).drop 3 := ⟨_, rfl⟩
    have hpl : p.length = i := by rw [hp]; simp; omega
    have htail : tyAt l i x = !(p.any fun y => !decide (x.name = ⟨#[]⟩) && sameTyB x y) := by
      rw [hp, tyAt, hy]
      by_cases e : x.name = ⟨#[]⟩ <;> simp [e]
    have hpm : List.drop 3 (List.take (3 + i) (l.map Ty.v)) = p.map Ty.v := by rw [hp, List.map_drop, List.map_take]
    simp [-getElem?_pos, List.getElem?_cons_zero, List.getElem?_cons_succ, h0, h16, h17, h18, hL, hi, hx, e88, hw3, h3i, a1, a2, hpm]
    refine lp_list p (fun j s => s.e 0 = .lst (l.map Ty.v) ∧ s.e 16 = .lst (q.map Ty.v) ∧ s.e 17 = .int .i64 q.length ∧ s.e 18 = .int .i64 i ∧ s.e 30 = .lst (p.map Ty.v) ∧ s.e 31 = .int .i64 p.length ∧ s.e 32 = .int .i64 j ∧
      (∃ b, s.e 4 = .ptr b 0 ∧ b < s.nb ∧ s.B b = some x.v) ∧ anyI (fun y => !decide (x.name = ⟨#[]⟩) && sameTyB x y) p j = false) ?_ ?_ ?_
    · simp [h0, h16, h17, h18]
    · rintro c2 L2 hL2 j s y hyp hj ih2 ⟨g0, g16, g17, g18, g30, g31, g32, ⟨b, g4, gb, gB⟩, hany⟩
      have hw2 : IntKind.i64.wrap ((j : Int) + 1) = ((j + 1 : Nat) : Int) := wrap64 (by omega) (by omega)
      have n1 : ¬ b = s.nb := by omega
      have n2 : ¬ s.nb = b := by omega
      simp only [Ty.v] at gB
      simp [-getElem?_pos, List.getElem?_cons_zero, List.getElem?_cons_succ, g0, g16, g17, g18, g30, g31, g32, g4, gB, hL2, hj, hyp, n1, n2]
      split
      · rename_i hf
        have hany2 := any_yes (p := fun y => !decide (x.name = ⟨#[]⟩) && sameTyB x y) hyp (by simp [hf.1.1, sameTyB, hf.1.2.symm, hf.2.symm])
        exact no (by rw [htail, hany2]; rfl)
      · rename_i hf
        have hno : (!decide (x.name = ⟨#[]⟩) && sameTyB x y) = false := by
          simp only [sameTyB]
          by_cases e : x.name = ⟨#[]⟩
          · simp [e]
          · by_cases e1 : y.name = x.name
            · have : ¬ y.owner = x.owner := fun h => hf ⟨⟨e, e1.symm⟩, h.symm⟩
              simp [this]
            · simp [e1]
        refine ih2 _ ?_
        simp [g0, g16, g17, g18, g30, g31, g32, g4, gB, hw2, anyI_succ hyp, hany, hno, n1, n2]
        omega
    · rintro c2 s ⟨g0, g16, g17, g18, g30, g31, g32, ⟨b, g4, gb, gB⟩, hany⟩
      rw [anyI_all] at hany
      have hyes : tyAt l i x = true := by rw [htail, hany]; rfl
      simp [g0, g16, g17, g18, g30, g31, g32, hL]
      refine ih _ ?_
      simp [g0, g16, g17, g18, hw, allI_succ hx, hall, hyes]
  · rintro c' t ⟨h0, h16, h17, h18, hall⟩
    simp [h0, h16, h17, h18, htb, hall]
noncomputable def c71 := ctr (fun l : List Ty => limL Ty.lim l) (fun l => [.lst (l.map Ty.v)]) (fun l => (false, .bool (typesB l)))
theorem c71_eq (l : List Ty) (h : limL Ty.lim l) : c71 [.lst (l.map Ty.v)] = some (false, .bool (typesB l)) := ctr_eq (injl Ty.v_inj _) l h rfl
theorem c71_ok : COK Tryz.prog (71, c71) := ctr_ok fun l h => f71_ok l h
theorem f49_ok (l : List Ty) (hl : limL Ty.lim l) : FunOK Tryz.prog 49 [.lst (l.map Ty.v)] false (.bool (tableI l)) := by
  refine fun_ok (mkE_ok zmix (cl := [(71, c71), (72, c72)]) (gl := []) [] ⟨c71_ok, c72_ok⟩ trivial) Tryz.func49 (by kernel_rfl) ?_
  refine FunW_run _ _ rfl rfl ?_
  have e75 := c71_eq l hl
  have hlen := hl.1
  simp only [lim] at hlen
  cases ht : typesB l
  · rw [ht] at e75
    simp [e75, tableI, ht]
  · rw [ht] at e75
    have hp := typesB_pre ht
    simp [e75]
    refine lp_list l (fun i t => t.e 0 = .lst (l.map Ty.v) ∧ t.e 8 = .int .i64 l.length ∧ t.e 9 = .int .i64 i ∧ allI (tabAt l) l i = true) ?_ ?_ ?_
    · simp
    · rintro c' L hL i t x hx hi ih ⟨h0, h8, h9, hall⟩
      have hw : IntKind.i64.wrap ((i : Int) + 1) = ((i + 1 : Nat) : Int) := wrap64 (by omega) (by omega)
      have e76 := c72_eq l i x hp hx
      cases hr : roundI l x i
      · rw [hr] at e76
        simp [-getElem?_pos, h0, h8, h9, hL, hi, e76]
        refine ih _ ?_
        simp [h0, h8, h9, hw, allI_succ hx, hall, tabAt, hr]
      · rw [hr] at e76
        have := allI_no (p := tabAt l) hx (by simp [tabAt, hr])
        simp [-getElem?_pos, h0, h8, h9, hL, hi, e76, tableI, this]
    · rintro c' t ⟨h0, h8, h9, hall⟩
      simp [h0, h8, h9, tableI, ht, hall]
noncomputable def c49 := ctr (fun l : List Ty => limL Ty.lim l) (fun l => [.lst (l.map Ty.v)]) (fun l => (false, .bool (tableI l)))
theorem c49_eq (l : List Ty) (h : limL Ty.lim l) : c49 [.lst (l.map Ty.v)] = some (false, .bool (tableI l)) := ctr_eq (injl Ty.v_inj _) l h rfl
theorem c49_ok : COK Tryz.prog (49, c49) := ctr_ok fun l h => f49_ok l h
end Go.TM.Tryz
end
section
set_option maxHeartbeats 4000000
set_option maxRecDepth 10000
set_option linter.unusedSimpArgs false
set_option linter.unusedVariables false
namespace Go.TM.Tryz
open Go Go.TM Go.Proofs
def impAt (s : Scp) (i : Nat) (m : ByteArray) : Bool := nameB m && !decide (m = s.name) && !hasB (s.imports.take i) m
def objAtS (s : Scp) (i : Nat) (o : Obj) : Bool := objB s.types.length o && !hasB s.imports o.name && !decide (fstI (fun x => decide (x.name = o.name)) s.objects < i)
def goodTl (s : Scp) : Bool := nameB s.name && tableI s.types && decide (s.imports.length ≤ 4) && decide (s.objects.length ≤ 16) && decide (s.uses.length ≤ 40)
def goodS (s : Scp) : Bool := allI (impAt s) s.imports s.imports.length && allI (objAtS s) s.objects s.objects.length && allI (useAtI s) s.uses s.uses.length && goodTl s
theorem f26_ok (s : Scp) (hl : s.lim) : FunOK Tryz.prog 26 [s.v] false (.bool (goodS s)) := by
  refine fun_ok (mkE_ok zmix (cl := [(39, c39), (46, c46), (47, c47), (48, c48), (49, c49)]) (gl := []) [] ⟨c39_ok, c46_ok, c47_ok, c48_ok, c49_ok⟩ trivial) Tryz.func26 (by kernel_rfl) ?_
  refine FunW_run _ _ rfl rfl ?_
  obtain ⟨l1, l2, l3, l4, l5⟩ := hl
  have li := l2.1
  have lo := l4.1
  have lu := l5.1
  simp only [lim] at li lo lu
  simp
  refine lp_list s.imports (fun i t => t.e 12 = .lst (s.imports.map .str) ∧ t.e 13 = .int .i64 s.imports.length ∧ t.e 14 = .int .i64 i ∧ (∃ b, t.e 1 = .ptr b 0 ∧ b < t.nb ∧ t.B b = some s.v) ∧ allI (impAt s) s.imports i = true) ?_ ?_ ?_
  · simp
  · rintro c' L hL i t m hx hi ih ⟨g12, g13, g14, ⟨b, g1, gb, gB⟩, hal⟩
    have hw : IntKind.i64.wrap ((i : Int) + 1) = ((i + 1 : Nat) : Int) := wrap64 (by omega) (by omega)
    have e39 := c39_eq m (l2.2 m (List.mem_of_getElem? hx))
    have e46 := c46_eq (s.imports.take i) m (by simp [lim]; omega)
    rw [List.map_take] at e46
    have hii : (i : Int) ≤ s.imports.length := by omega
    have hii2 : i ≤ s.imports.length := by omega
    simp only [Scp.v] at gB
    have no : impAt s i m = false → goodS s = false := fun hn => by
      have := allI_no hx hn
      simp [goodS, this]
    have go : ∀ s', impAt s i m = true → s'.e 12 = .lst (s.imports.map .str) → s'.e 13 = .int .i64 s.imports.length → s'.e 14 = .int .i64 ((i + 1 : Nat) : Int) → s'.e 1 = .ptr b 0 → b < s'.nb → s'.B b = some s.v → L s' := fun s' hy a0 a1 a2 a3 a4 a5 =>
      ih s' ⟨a0, a1, a2, ⟨b, a3, a4, a5⟩, by rw [allI_succ hx, hal, hy]; rfl⟩
    cases b1 : nameB m <;> by_cases b2 : m = s.name <;> cases b3 : hasB (s.imports.take i) m
    all_goals
      rw [b1] at e39
      rw [b3] at e46
      first | rw [b2] at e39 e46 | skip
      simp [-getElem?_pos, List.getElem?_cons_zero, List.getElem?_cons_succ, g12, g13, g14, g1, gB, hL, hi, hx, hii, hii2, e39, e46, b2]
      first
      | (apply no; simp [impAt, b1, b2, b3]; done)
      | (apply go <;> simp [impAt, b1, b2, b3, g12, g13, g14, g1, gB, hw, gb]; done)
      | skip
  · rintro c' t ⟨g12, g13, g14, ⟨b, g1, gb, gB⟩, hal⟩
    simp only [Scp.v] at gB
    simp [g12, g13, g14, g1, gB]
    clear g12 g13 g14
    refine lp_list s.objects (fun i t => t.e 38 = .lst (s.objects.map Obj.v) ∧ t.e 39 = .int .i64 s.objects.length ∧ t.e 40 = .int .i64 i ∧ (∃ b, t.e 1 = .ptr b 0 ∧ b < t.nb ∧ t.B b = some s.v) ∧ allI (objAtS s) s.objects i = true) ?_ ?_ ?_
    · simp [g1, gB, gb]
    · rintro c2 L2 hL2 i t2 o hx hi ih ⟨g38, g39, g40, ⟨b2, k1, kb, kB⟩, hal2⟩
      have hw : IntKind.i64.wrap ((i : Int) + 1) = ((i + 1 : Nat) : Int) := wrap64 (by omega) (by omega)
      have hol := l4.2 o (List.mem_of_getElem? hx)
      have e47 := c47_eq s.types o l3.1 hol
      have e46 := c46_eq s.imports o.name l2.1
      have e48 := c48_eq s o.name l4.1
      simp only [Obj.v] at e47
      simp only [Scp.v] at e48 kB
      have n1 : ¬ b2 = t2.nb := by omega
      have n2 : ¬ t2.nb = b2 := by omega
      have no : objAtS s i o = false → goodS s = false := fun hn => by
        have := allI_no hx hn
        simp [goodS, this]
      have go : ∀ s', objAtS s i o = true → s'.e 38 = .lst (s.objects.map Obj.v) → s'.e 39 = .int .i64 s.objects.length → s'.e 40 = .int .i64 ((i + 1 : Nat) : Int) → s'.e 1 = .ptr b2 0 → b2 < s'.nb → s'.B b2 = some s.v → L2 s' := fun s' hy a0 a1 a2 a3 a4 a5 =>
        ih s' ⟨a0, a1, a2, ⟨b2, a3, a4, a5⟩, by rw [allI_succ hx, hal2, hy]; rfl⟩
      generalize hf : fstI (fun x => decide (x.name = o.name)) s.objects = k at *
      cases q1 : objB s.types.length o <;> cases q2 : hasB s.imports o.name <;> by_cases q3 : k < i
      all_goals
        rw [q1] at e47
        rw [q2] at e46
        simp [-getElem?_pos, List.getElem?_cons_zero, List.getElem?_cons_succ, g38, g39, g40, k1, kB, hL2, hi, hx, e47, e46, e48, q3, n1, n2]
        first
        | (apply no; simp [objAtS, q1, q2, q3, hf]; done)
        | (apply go <;> simp [objAtS, q1, q2, q3, hf, g38, g39, g40, k1, kB, hw, n1, n2] <;> omega)
        | skip
    · rintro c2 t2 ⟨g38, g39, g40, ⟨b2, k1, kb, kB⟩, hal2⟩
      simp only [Scp.v] at kB
      simp [g38, g39, g40, k1, kB]
      clear g38 g39 g40
      refine lp_list s.uses (fun i t => t.e 67 = .lst (s.uses.map Use.v) ∧ t.e 68 = .int .i64 s.uses.length ∧ t.e 69 = .int .i64 i ∧ (∃ b, t.e 1 = .ptr b 0 ∧ b < t.nb ∧ t.B b = some s.v) ∧ allI (useAtI s) s.uses i = true) ?_ ?_ ?_
      · simp [k1, kB, kb]
      · rintro c3 L3 hL3 i t3 u hx hi ih ⟨g67, g68, g69, ⟨b3, m1, mb, mB⟩, hal3⟩
        have hw : IntKind.i64.wrap ((i : Int) + 1) = ((i + 1 : Nat) : Int) := wrap64 (by omega) (by omega)
        have hul := l5.2 u (List.mem_of_getElem? hx)
        have e46 := c46_eq s.imports u.mod l2.1
        have e39 := c39_eq u.name hul.2
        have hii : (i : Int) ≤ s.uses.length := by omega
        have hii2 : i ≤ s.uses.length := by omega
        simp only [Scp.v] at mB
        have n1 : ¬ b3 = t3.nb := by omega
        have n2 : ¬ t3.nb = b3 := by omega
        have no : useAtI s i u = false → goodS s = false := fun hn => by
          have := allI_no hx hn
          simp [goodS, this]
        cases q1 : hasB s.imports u.mod
        · rw [q1] at e46
          have := no (by simp [useAtI, q1])
          simp [-getElem?_pos, List.getElem?_cons_zero, List.getElem?_cons_succ, g67, g68, g69, m1, mB, hL3, hi, hx, hii, hii2, e46, e39, n1, n2, this]
        rw [q1] at e46
        cases q2 : nameB u.name
        · rw [q2] at e39
          have := no (by simp [useAtI, q2])
          simp [-getElem?_pos, List.getElem?_cons_zero, List.getElem?_cons_succ, g67, g68, g69, m1, mB, hL3, hi, hx, hii, hii2, e46, e39, n1, n2, this]
        rw [q2] at e39
        simp [-getElem?_pos, List.getElem?_cons_zero, List.getElem?_cons_succ, g67, g68, g69, m1, mB, hL3, hi, hx, hii, hii2, e46, e39, n1, n2]
        obtain ⟨p, hp⟩ : ∃ p, p = s.uses.take i := ⟨_, rfl⟩
        have hpl : p.length = i := by rw [hp]; simp; omega
        have htail : useAtI s i u = !p.any (sameUseB u) := by simp [useAtI, q1, q2, hp]
        refine lp_list p (fun j t => t.e 67 = .lst (s.uses.map Use.v) ∧ t.e 68 = .int .i64 s.uses.length ∧ t.e 69 = .int .i64 i ∧ t.e 89 = .lst (p.map Use.v) ∧ t.e 90 = .int .i64 p.length ∧ t.e 91 = .int .i64 j ∧
          (∃ b, t.e 1 = .ptr b 0 ∧ b < t.nb ∧ t.B b = some s.v) ∧ (∃ d, t.e 8 = .ptr d 0 ∧ d < t.nb ∧ t.B d = some u.v) ∧ anyI (sameUseB u) p j = false) ?_ ?_ ?_
        · subst hp
          simp [g67, g68, g69, m1, mB, n1, n2, hii2]
          omega
        · rintro c4 L4 hL4 j t4 v hv hj ih2 ⟨h67, h68, h69, h89, h90, h91, ⟨b4, r1, rb, rB⟩, ⟨d, r8, rd, rD⟩, hany⟩
          have hw2 : IntKind.i64.wrap ((j : Int) + 1) = ((j + 1 : Nat) : Int) := wrap64 (by omega) (by omega)
          have n3 : ¬ b4 = t4.nb := by omega
          have n4 : ¬ d = t4.nb := by omega
          simp only [Scp.v] at rB
          simp only [Use.v] at rD
          simp [-getElem?_pos, List.getElem?_cons_zero, List.getElem?_cons_succ, h67, h68, h69, h89, h90, h91, r1, rB, r8, rD, hL4, hj, hv, n3, n4]
          split
          · rename_i hf
            have hany2 := any_yes (p := sameUseB u) hv (by simp [sameUseB, hf.1, hf.2])
            exact no (by rw [htail, hany2]; rfl)
          · rename_i hf
            have hno : sameUseB u v = false := by
              simp only [sameUseB, Bool.and_eq_false_iff, decide_eq_false_iff_not]
              by_cases e : u.mod = v.mod
              · exact .inr fun h => hf ⟨e, h⟩
              · exact .inl e
            refine ih2 _ ?_
            simp [h67, h68, h69, h89, h90, h91, r1, rB, r8, rD, hw2, anyI_succ hv, hany, hno, n3, n4]
            omega
        · rintro c4 t4 ⟨h67, h68, h69, h89, h90, h91, ⟨b4, r1, rb, rB⟩, ⟨d, r8, rd, rD⟩, hany⟩
          rw [anyI_all] at hany
          have hyes : useAtI s i u = true := by rw [htail, hany]; rfl
          simp [h67, h68, h69, h89, h90, h91, hL3]
          refine ih _ ?_
          simp [h67, h68, h69, r1, rB, rb, hw, allI_succ hx, hal3, hyes]
      · rintro c3 t3 ⟨g67, g68, g69, ⟨b3, m1, mb, mB⟩, hal3⟩
        simp only [Scp.v] at mB
        have e39 := c39_eq s.name l1
        have e49 := c49_eq s.types l3
        have hg : goodS s = goodTl s := by simp [goodS, hal, hal2, hal3]
        simp [g67, g68, g69, m1, mB, e39, e49, hg]
        have z1 : ((s.imports.length : Int) ≤ 4) ↔ s.imports.length ≤ 4 := by omega
        have z2 : ((s.objects.length : Int) ≤ 16) ↔ s.objects.length ≤ 16 := by omega
        have z3 : ((s.uses.length : Int) ≤ 40) ↔ s.uses.length ≤ 40 := by omega
        simp only [goodTl, z1, z2, z3]
/-! ### both say the same -/
theorem allI_eq {α : Type} {p q : Nat → α → Bool} {xs : List α} (h : ∀ i x, xs[i]? = some x → p i x = q i x) : allI p xs xs.length = allI q xs xs.length := by
  rw [Bool.eq_iff_iff, allI_iff, allI_iff]
  exact ⟨fun hh i x hx => (h i x hx) ▸ hh i x hx, fun hh i x hx => (h i x hx).symm ▸ hh i x hx⟩
theorem hasB_iff {l : List ByteArray} {s : ByteArray} : hasB l s = true ↔ s ∈ l := by
  simp only [hasB, List.any_eq_true, decide_eq_true_eq]
  exact ⟨fun ⟨x, h, e⟩ => e ▸ h, fun h => ⟨s, h, rfl⟩⟩
theorem unlikeB_iff {l : List ByteArray} : unlikeB l = true ↔ (∀ x ∈ l, nameB x = true) ∧ l.Nodup := by
  rw [unlikeB, allI_iff]
  constructor
  · intro h
    refine ⟨fun x hx => ?_, ?_⟩
    · obtain ⟨i, hi, rfl⟩ := List.mem_iff_getElem.1 hx
      have := h i _ (List.getElem?_eq_getElem hi)
      simp only [Bool.and_eq_true] at this
      exact this.1
    · unfold List.Nodup
      rw [List.pairwise_iff_getElem]
      intro i j hi hj hij e
      have := h j _ (List.getElem?_eq_getElem hj)
      simp only [Bool.and_eq_true, Bool.not_eq_true'] at this
      have h2 := this.2
      rw [← Bool.not_eq_true, hasB_iff] at h2
      apply h2
      rw [← e]
      exact List.mem_take_iff_getElem.2 ⟨i, by omega, rfl⟩
  · rintro ⟨h1, h2⟩ i x hx
    have hm := List.mem_of_getElem? hx
    simp only [Bool.and_eq_true, Bool.not_eq_true']
    refine ⟨h1 x hm, ?_⟩
    rw [← Bool.not_eq_true, hasB_iff]
    intro hc
    obtain ⟨j, hj, e⟩ := List.mem_take_iff_getElem.1 hc
    rw [List.getElem?_eq_some_iff] at hx
    obtain ⟨hi, hx⟩ := hx
    unfold List.Nodup at h2
    rw [List.pairwise_iff_getElem] at h2
    exact h2 j i (by omega) hi (by omega) (by rw [e, hx])
end Go.TM.Tryz
end
section
set_option maxHeartbeats 2000000
set_option linter.unusedSimpArgs false
set_option linter.unusedVariables false
namespace Go.TM.Tryz
open Go Go.TM Go.Proofs
theorem objB_eq (n : Nat) (o : Obj) : objB n o = (nameB o.name && objIB n o) := by
  have hp : ∀ p : List Par, allI (parIAt n p) p p.length = allI (parAt n p) p p.length := fun p => rfl
  unfold objB objIB objIHead objKind objIKind parsB
  rw [hp]
  by_cases hk : o.kind = 4
  · have h1 : inB o.type (-1) (n - 1) = (decide (o.type = -1) || inB o.type 0 (n - 1)) := by
      rw [Bool.eq_iff_iff, Bool.or_eq_true, inB_iff, inB_iff, decide_eq_true_eq]
      omega
    rw [h1]
    simp only [hk]
    generalize allI (parAt n o.params) o.params o.params.length = a
    generalize nameB o.name = b
    generalize inB o.mark 0 2 = c
    generalize inB o.type 0 (n - 1) = d
    cases a <;> cases b <;> cases c <;> cases d <;> by_cases h2 : o.mark = 2 <;> by_cases h3 : o.value = 0 <;> by_cases h4 : o.params.length ≤ 4 <;> by_cases h5 : o.type = -1 <;> simp [h2, h3, h4, h5]
  · by_cases hl : o.params = []
    · simp only [hl, hk]
      generalize nameB o.name = b
      generalize inB o.mark 0 2 = c
      generalize inB o.type 0 (n - 1) = d
      generalize inB o.value (-1000000000) 1000000000 = e
      by_cases k1 : o.kind = 1
      · cases b <;> cases c <;> cases d <;> cases e <;> by_cases h2 : o.mark = 2 <;> by_cases h3 : o.value = 0 <;> by_cases h5 : o.type = 0 <;> simp [h2, h3, h5, k1, allI]
      · by_cases k2 : o.kind = 2 ∨ o.kind = 3
        · cases b <;> cases c <;> cases d <;> by_cases h2 : o.mark = 2 <;> by_cases h3 : o.value = 0 <;> by_cases h6 : o.kind = 3 <;> simp [h2, h3, h6, k1, k2, allI]
        · simp [k1, k2]
    · have : 0 < o.params.length := List.length_pos_iff.2 hl
      simp [hk, this]
theorem nodup_takes {α β : Type} (f : α → β) (l : List α) : (∀ i x, l[i]? = some x → f x ∉ (l.take i).map f) ↔ (l.map f).Nodup := by
  unfold List.Nodup
  rw [List.pairwise_iff_getElem]
  constructor
  · intro h i j hi hj hij e
    simp only [List.length_map] at hi hj
    refine h j _ (List.getElem?_eq_getElem hj) ?_
    simp only [List.getElem_map] at e
    rw [← e, List.mem_map]
    exact ⟨l[i], List.mem_take_iff_getElem.2 ⟨i, by omega, rfl⟩, rfl⟩
  · intro h i x hx hc
    obtain ⟨y, hy, e⟩ := List.mem_map.1 hc
    obtain ⟨j, hj, e2⟩ := List.mem_take_iff_getElem.1 hy
    rw [List.getElem?_eq_some_iff] at hx
    obtain ⟨hi, hx⟩ := hx
    refine h j i (by simp; omega) (by simpa using hi) (by omega) ?_
    simp only [List.getElem_map, e2, hx, e]
theorem fst_lt {α : Type} {p : α → Bool} {l : List α} {i : Nat} {x : α} (hx : l[i]? = some x) (hp : p x = true) : fstI p l < i ↔ ∃ y ∈ l.take i, p y = true := by
  rw [fstI, if_pos (any_yes hx hp)]
  have hi : i < l.length := by
    rw [List.getElem?_eq_some_iff] at hx
    exact hx.1
  constructor
  · intro h
    have h1 : l.findIdx p < i := by omega
    have h2 : l.findIdx p < l.length := by omega
    exact ⟨_, List.mem_take_iff_getElem.2 ⟨l.findIdx p, by omega, rfl⟩, List.findIdx_getElem (w := h2)⟩
  · rintro ⟨y, hy, hpy⟩
    obtain ⟨j, hj, e⟩ := List.mem_take_iff_getElem.1 hy
    by_cases hlt : j < l.findIdx p
    · have := List.not_of_lt_findIdx hlt
      rw [e, hpy] at this
      cases this
    · omega
theorem impAt_iff (s : Scp) : allI (impAt s) s.imports s.imports.length = true ↔ (∀ m ∈ s.imports, nameB m = true) ∧ s.name ∉ s.imports ∧ s.imports.Nodup := by
  have h0 := nodup_takes (fun x : ByteArray => x) s.imports
  rw [List.map_id'] at h0
  rw [allI_iff, ← h0]
  simp only [impAt, Bool.and_eq_true, Bool.not_eq_true', decide_eq_false_iff_not, ← Bool.not_eq_true, hasB_iff, List.map_id']
  constructor
  · intro h
    refine ⟨fun m hm => ?_, fun hc => ?_, fun i x hx => (h i x hx).2⟩
    · obtain ⟨i, hi, rfl⟩ := List.mem_iff_getElem.1 hm
      exact (h i _ (List.getElem?_eq_getElem hi)).1.1
    · obtain ⟨i, hi, e⟩ := List.mem_iff_getElem.1 hc
      exact (h i _ (List.getElem?_eq_getElem hi)).1.2 (by simpa using e)
  · rintro ⟨h1, h2, h3⟩ i x hx
    have hm := List.mem_of_getElem? hx
    exact ⟨⟨h1 x hm, fun e => h2 ((by simpa using e : x = s.name) ▸ hm)⟩, h3 i x hx⟩
theorem objAtS_iff (s : Scp) : allI (objAtS s) s.objects s.objects.length = true ↔ (∀ o ∈ s.objects, nameB o.name = true ∧ objIB s.types.length o = true) ∧ (∀ o ∈ s.objects, o.name ∉ s.imports) ∧ (s.objects.map Obj.name).Nodup := by
  rw [allI_iff, ← nodup_takes]
  have key : ∀ i o, s.objects[i]? = some o → (objAtS s i o = true ↔ (nameB o.name = true ∧ objIB s.types.length o = true) ∧ o.name ∉ s.imports ∧ o.name ∉ (s.objects.take i).map Obj.name) := by
    intro i o ho
    rw [objAtS, objB_eq]
    simp only [Bool.and_eq_true, Bool.not_eq_true', decide_eq_false_iff_not, ← Bool.not_eq_true (hasB _ _), hasB_iff]
    rw [fst_lt ho (by simp)]
    constructor
    · rintro ⟨⟨h1, h2⟩, h3⟩
      refine ⟨h1, h2, fun hc => h3 ?_⟩
      obtain ⟨y, hy, e⟩ := List.mem_map.1 hc
      exact ⟨y, hy, by simp [e]⟩
    · rintro ⟨h1, h2, h3⟩
      refine ⟨⟨h1, h2⟩, ?_⟩
      rintro ⟨y, hy, e⟩
      exact h3 (List.mem_map.2 ⟨y, hy, by simpa using e⟩)
  constructor
  · intro h
    refine ⟨fun o ho => ?_, fun o ho => ?_, fun i x hx => ((key i x hx).1 (h i x hx)).2.2⟩ <;>
    · obtain ⟨i, hi, rfl⟩ := List.mem_iff_getElem.1 ho
      have := (key i _ (List.getElem?_eq_getElem hi)).1 (h i _ (List.getElem?_eq_getElem hi))
      first | exact this.1 | exact this.2.1
  · rintro ⟨h1, h2, h3⟩ i x hx
    have hm := List.mem_of_getElem? hx
    exact (key i x hx).2 ⟨h1 x hm, h2 x hm, h3 i x hx⟩
theorem objAtI_iff (s : Scp) : allI (objAtI s) s.objects s.objects.length = true ↔ ∀ o ∈ s.objects, objIB s.types.length o = true := by
  rw [allI_iff]
  constructor
  · intro h o ho
    obtain ⟨i, hi, rfl⟩ := List.mem_iff_getElem.1 ho
    exact h i _ (List.getElem?_eq_getElem hi)
  · exact fun h i o ho => h o (List.mem_of_getElem? ho)
theorem good_eq (s : Scp) : goodS s = scopeI s := by
  rw [Bool.eq_iff_iff]
  simp only [goodS, scopeI, goodTl, scopeHd, Bool.and_eq_true, decide_eq_true_eq, impAt_iff, objAtS_iff, objAtI_iff, unlikeB_iff, List.nodup_cons, List.nodup_append, List.mem_cons, List.mem_append, List.mem_map]
  constructor
  · rintro ⟨⟨⟨⟨a1, a2, a3⟩, b1, b2, b3⟩, hu⟩, ⟨⟨⟨d1, d2⟩, d3⟩, d4⟩, d5⟩
    refine ⟨⟨⟨⟨d1, d3, ⟨?_, a2, a3⟩, d2, d4, d5⟩, fun o ho => (b1 o ho).2⟩, hu⟩, ?_, a3, b3, ?_⟩
    · rintro x (rfl | hx)
      · exact d1
      · exact a1 x hx
    · rintro x (hx | ⟨o, ho, rfl⟩)
      · exact a1 x hx
      · exact (b1 o ho).1
    · rintro x hx y ⟨o, ho, rfl⟩ e
      exact b2 o ho (e ▸ hx)
  · rintro ⟨⟨⟨⟨d1, d3, ⟨a1, a2, a3⟩, d2, d4, d5⟩, b1⟩, hu⟩, c1, c2, c3, c4⟩
    refine ⟨⟨⟨⟨fun m hm => a1 m (.inr hm), a2, a3⟩, fun o ho => ⟨c1 _ (.inr ⟨o, ho, rfl⟩), b1 o ho⟩, fun o ho hc => ?_, c3⟩, hu⟩, ⟨⟨⟨d1, d2⟩, d3⟩, d4⟩, d5⟩
    exact c4 _ hc _ ⟨o, ho, rfl⟩ rfl
noncomputable def c26 := ctr (fun s : Scp => s.lim) (fun s => [s.v]) (fun s => (false, .bool (scopeI s)))
theorem c26_eq (s : Scp) (h : s.lim) : c26 [s.v] = some (false, .bool (scopeI s)) := ctr_eq (inj0 Scp.v_inj _) s h rfl
theorem c26_ok : COK Tryz.prog (26, c26) := ctr_ok fun s h => by
  have := f26_ok s h
  rw [good_eq] at this
  exact this
end Go.TM.Tryz
end
section
set_option maxHeartbeats 2000000
set_option linter.unusedSimpArgs false
set_option linter.unusedVariables false
namespace Go.TM.Tryz
open Go Go.TM Go.Proofs
theorem f7_ok (s : Scp) (hl : s.lim) : FunOK Tryz.prog 7 [s.v] false (.tup [.inl 1 ((okStr (scopeI s) (shownL s.objects)).map .str), .bool (scopeI s)]) := by
  refine fun_ok (mkE_ok zmix (cl := [(26, c26)]) (gl := []) [] c26_ok trivial) Tryz.func7 (by kernel_rfl) ?_
  refine FunW_run _ _ rfl rfl ?_
  have e26 := c26_eq s hl
  simp only [Scp.v] at e26
  cases hs : scopeI s
  · rw [hs] at e26
    simp [e26, okStr]
  · rw [hs] at e26
    obtain ⟨_, h16, _⟩ := scopeI_len hs
    have r1 : room ⟨1, false, 16, .str ⟨#[]⟩⟩ 1 := by simp [room]
    simp [e26, okStr]
    refine lp_list s.objects (fun i t => t.e 11 = .lst (s.objects.map Obj.v) ∧ t.e 12 = .int .i64 s.objects.length ∧ t.e 13 = .int .i64 i ∧ hasR t (t.e 4) 1 ((shownL (s.objects.take i)).map .str)) ?_ ?_ ?_
    · simp [shownL]
    · rintro c' L hL i t o hx hi ih ⟨g11, g12, g13, ⟨r, g4, hlt, hR⟩⟩
      have hw : IntKind.i64.wrap ((i : Int) + 1) = ((i + 1 : Nat) : Int) := wrap64 (by omega) (by omega)
      have n1 : ¬ r = t.nt := by omega
      have n2 : ¬ r = t.nt + 1 := by omega
      have hle : (shownL (s.objects.take i)).length ≤ s.objects.length := by rw [shownL, List.length_map]; exact filter_take_le _ _ _
      have r3 : room ⟨1, false, 16, .str ⟨#[]⟩⟩ ((shownL (s.objects.take i)).length + 1) := by simp [room]; omega
      have hsucc : shownL (s.objects.take (i + 1)) = shownL (s.objects.take i) ++ (if decide (0 < o.mark) = true then [o.name] else []) := by
        rw [shownL, filter_succ hx, List.map_append]
        congr 1
        split <;> rfl
      generalize shownL (s.objects.take i) = q at hR hle r3 hsucc
      by_cases hm : 0 < o.mark
      · simp [-getElem?_pos, List.getElem?_cons_zero, List.getElem?_cons_succ, g11, g12, g13, g4, hR, hL, hi, hx, hm, n1, n2, r1, r3]
        refine ih _ ?_
        simp [g11, g12, g13, hw, hsucc, hm, n1, n2]
      · simp [-getElem?_pos, List.getElem?_cons_zero, List.getElem?_cons_succ, g11, g12, g13, g4, hR, hL, hi, hx, hm, n1, n2]
        refine ih _ ?_
        simp [g11, g12, g13, g4, hR, hw, hsucc, hm, n1, n2]
        omega
    · rintro c' t ⟨g11, g12, g13, ⟨r, g4, hlt, hR⟩⟩
      rw [List.take_length] at hR
      simp [g11, g12, g13, g4, hR]
noncomputable def c7 := ctr (fun s : Scp => s.lim) (fun s => [s.v]) (fun s => (false, .tup [.inl 1 ((okStr (scopeI s) (shownL s.objects)).map .str), .bool (scopeI s)]))
theorem c7_eq (s : Scp) (h : s.lim) : c7 [s.v] = some (false, .tup [.inl 1 ((okStr (scopeI s) (shownL s.objects)).map .str), .bool (scopeI s)]) := ctr_eq (inj0 Scp.v_inj _) s h rfl
theorem c7_ok : COK Tryz.prog (7, c7) := ctr_ok fun s h => f7_ok s h
theorem f15_ok (s : Scp) (m : ByteArray) (hl : s.lim) (hm : m.size ≤ lim) : FunOK Tryz.prog 15 [s.v, .str m] false (.tup [.inl 1 ((okStr (scopeI s && nameB m) (usesL m s.uses)).map .str), .bool (scopeI s && nameB m)]) := by
  refine fun_ok (mkE_ok zmix (cl := [(26, c26), (39, c39)]) (gl := []) [] ⟨c26_ok, c39_ok⟩ trivial) Tryz.func15 (by kernel_rfl) ?_
  refine FunW_run _ _ rfl rfl ?_
  have e26 := c26_eq s hl
  have e39 := c39_eq m hm
  simp only [Scp.v] at e26
  cases hs : scopeI s
  · rw [hs] at e26
    simp [e26, e39, okStr]
  rw [hs] at e26
  cases hn : nameB m
  · rw [hn] at e39
    simp [e26, e39, okStr]
  rw [hn] at e39
  obtain ⟨_, _, h40⟩ := scopeI_len hs
  have r1 : room ⟨1, false, 16, .str ⟨#[]⟩⟩ 1 := by simp [room]
  simp [e26, e39, okStr]
  refine lp_list s.uses (fun i t => t.e 1 = .str m ∧ t.e 18 = .lst (s.uses.map Use.v) ∧ t.e 19 = .int .i64 s.uses.length ∧ t.e 20 = .int .i64 i ∧ hasR t (t.e 6) 1 ((usesL m (s.uses.take i)).map .str)) ?_ ?_ ?_
  · simp [usesL]
  · rintro c' L hL i t o hx hi ih ⟨g1, g11, g12, g13, ⟨r, g4, hlt, hR⟩⟩
    have hw : IntKind.i64.wrap ((i : Int) + 1) = ((i + 1 : Nat) : Int) := wrap64 (by omega) (by omega)
    have n1 : ¬ r = t.nt := by omega
    have n2 : ¬ r = t.nt + 1 := by omega
    have hle : (usesL m (s.uses.take i)).length ≤ s.uses.length := by rw [usesL, List.length_map]; exact filter_take_le _ _ _
    have r3 : room ⟨1, false, 16, .str ⟨#[]⟩⟩ ((usesL m (s.uses.take i)).length + 1) := by simp [room]; omega
    have hsucc : usesL m (s.uses.take (i + 1)) = usesL m (s.uses.take i) ++ (if decide (o.mod = m) = true then [o.name] else []) := by
      rw [usesL, filter_succ hx, List.map_append]
      congr 1
      split <;> rfl
    generalize usesL m (s.uses.take i) = q at hR hle r3 hsucc
    by_cases hm : o.mod = m
    · simp [-getElem?_pos, List.getElem?_cons_zero, List.getElem?_cons_succ, g1, g11, g12, g13, g4, hR, hL, hi, hx, hm, n1, n2, r1, r3]
      refine ih _ ?_
      simp [g1, g11, g12, g13, hw, hsucc, hm, n1, n2]
    · simp [-getElem?_pos, List.getElem?_cons_zero, List.getElem?_cons_succ, g1, g11, g12, g13, g4, hR, hL, hi, hx, hm, n1, n2]
      refine ih _ ?_
      simp [g1, g11, g12, g13, g4, hR, hw, hsucc, hm, n1, n2]
      omega
  · rintro c' t ⟨g1, g11, g12, g13, ⟨r, g4, hlt, hR⟩⟩
    rw [List.take_length] at hR
    simp [g1, g11, g12, g13, g4, hR]
noncomputable def c15 := ctr (fun a : Scp × ByteArray => a.1.lim ∧ a.2.size ≤ lim) (fun a => [a.1.v, .str a.2]) (fun a => (false, .tup [.inl 1 ((okStr (scopeI a.1 && nameB a.2) (usesL a.2 a.1.uses)).map .str), .bool (scopeI a.1 && nameB a.2)]))
theorem c15_eq (s : Scp) (m : ByteArray) (h : s.lim) (hm : m.size ≤ lim) : c15 [s.v, .str m] = some (false, .tup [.inl 1 ((okStr (scopeI s && nameB m) (usesL m s.uses)).map .str), .bool (scopeI s && nameB m)]) := ctr_eq (inj48 _) (s, m) ⟨h, hm⟩ rfl
theorem c15_ok : COK Tryz.prog (15, c15) := ctr_ok fun a h => f15_ok a.1 a.2 h.1 h.2
end Go.TM.Tryz
end
section
set_option maxHeartbeats 2000000
set_option linter.unusedSimpArgs false
set_option linter.unusedVariables false
namespace Go.TM.Tryz
open Go Go.TM Go.Proofs
theorem f38_ok (k : Int) (h : k ≤ 4611686018427387904) : FunOK Tryz.prog 38 [.int .i64 k] false (.str (mtext k)) := by
  refine fun_ok (mkE_ok zmix (cl := []) (gl := []) [] trivial trivial) Tryz.func38 (by kernel_rfl) ?_
  refine FunW_run _ _ rfl rfl ?_
  by_cases h0 : k ≤ 0
  · simp [h0, mtext]
  · simp [h0]
    refine lp_ind (fun m t => ∃ (n : Nat) (out : ByteArray), m = n ∧ t.e 0 = .int .i64 n ∧ t.e 3 = .str out ∧ mdig n ++ out = mdig k.toNat ∧ out.size + n ≤ k) k.toNat ⟨k.toNat, ⟨#[]⟩, rfl, ?_⟩ ?_
    · have e : ((k.toNat : Nat) : Int) = k := by omega
      simp [e, ba_append_nil, ba_nil_size]
    rintro c' L hL m t ih ⟨n, out, rfl, h1, h3, hout, hsz⟩
    by_cases hn : m = 0
    · subst hn
      have hb : 1 + out.size ≤ 9223372036854775807 := by omega
      rw [mdig_zero, ba_nil_append] at hout
      subst hout
      simp [h1, h3, hL, ba_one_size, hb, mtext, h0]
    · have hn' : 0 < m := by omega
      have ht : Int.tdiv (m : Int) 10 = ((m / 10 : Nat) : Int) := by
        rw [Int.tdiv_eq_ediv_of_nonneg (by omega)]
        omega
      have hb : 1 + out.size ≤ 9223372036854775807 := by omega
      have hw : IntKind.i64.wrap ((m : Int) / 10) = (m : Int) / 10 := wrap64 (by omega) (by omega)
      simp [h1, h3, hL, hn', ht, ba_one_size, hb]
      refine ih (m / 10) _ (by omega) ⟨m / 10, _, rfl, by simp [hw], by simp; rfl, ?_, ?_⟩
      · rw [← ByteArray.append_assoc, ← mdig_succ hn, hout]
      · rw [ByteArray.size_append, ba_one_size]
        omega
noncomputable def c38 := ctr (fun k : Int => k ≤ 4611686018427387904) (fun k => [.int .i64 k]) (fun k => (false, .str (mtext k)))
theorem c38_eq (k : Int) (h : k ≤ 4611686018427387904) : c38 [.int .i64 k] = some (false, .str (mtext k)) := ctr_eq (by simp) k h rfl
theorem c38_ok : COK Tryz.prog (38, c38) := ctr_ok fun k h => f38_ok k h

theorem f13_ok (xs : List ByteArray) (k : Int) (h0 : 0 ≤ k) (h1 : k + cnt cStr xs ≤ 4611686018427387904) (h2 : xs.length ≤ 4611686018427387904) : GenOK Tryz.prog 13 [.inl 1 (xs.map V.str), .int .i64 k] [] ⟨false, .int .i64 (k + cnt cStr xs), [.inl 1 ((mkL mkStr cStr k xs).map V.str)], []⟩ := by
  refine fun_okG (mkE_ok zmix (cl := [(38, c38)]) (gl := []) [] c38_ok trivial) Tryz.func13 (by kernel_rfl) ?_
  refine FunG_run _ _ rfl rfl ?_
  have hlen := h2
  simp
  refine lp_list xs (fun i t => t.e 0 = .own 0 ∧ t.e 1 = .int .i64 (k + pre cStr xs i) ∧ t.e 5 = .int .i64 i ∧ t.nb = 0 ∧ 1 ≤ t.nt ∧ t.R 0 = some ⟨1, (mpart mkStr cStr k xs i).map V.str, true⟩) ?_ ?_ ?_
  · simp [pre_zero, mpart_zero]
  · rintro c' L hL i t x hx hi ih ⟨g0, g1, g5, gnb, gnt, gR⟩
    have hw : IntKind.i64.wrap ((i : Int) + 1) = ((i + 1 : Nat) : Int) := wrap64 (by omega) (by omega)
    have hp := pre_succ cStr hx
    have hp2 := pre_le cStr xs (i + 1)
    have hc : cStr x = 1 := rfl
    have hcnt : (xs.map cStr).sum = cnt cStr xs := rfl
    have e0 := c38_eq (k + (pre cStr xs i : Nat)) (by omega)
    have w0 : IntKind.i64.wrap (k + (pre cStr xs i : Nat) + 1) = k + (pre cStr xs i : Nat) + 1 := wrap64 (by omega) (by omega)
    have hx' := mpart_get (f := mkStr) (c := cStr) (k := k) hx
    simp [-getElem?_pos, List.getElem?_cons_zero, List.getElem?_cons_succ, g0, g1, g5, gnb, gR, hL, hx', hi, e0, w0]
    refine ih _ ?_
    simp [-getElem?_pos, List.getElem?_cons_zero, List.getElem?_cons_succ, g0, g1, g5, gnb, gR, hL, hx', hi, e0, w0, hp, hc, hw]
    first
      | exact ⟨by omega, by omega, mpart_setv hx rfl⟩
      | exact ⟨by omega, mpart_setv hx rfl⟩
      | exact mpart_setv hx rfl
  · rintro c' t ⟨g0, g1, g5, gnb, gnt, gR⟩
    simp only [pre_all] at g1
    simp [g0, g1, g5, gnb, gR, mpart_all, cnt]
noncomputable def c13 := ctrG (fun a : List ByteArray × Int => 0 ≤ a.2 ∧ a.2 + cnt cStr a.1 ≤ 4611686018427387904 ∧ (a.1.length ≤ 4611686018427387904)) (fun a => ([.inl 1 (a.1.map V.str), .int .i64 a.2], [])) (fun a => ⟨false, .int .i64 (a.2 + cnt cStr a.1), [.inl 1 ((mkL mkStr cStr a.2 a.1).map V.str)], []⟩)
theorem c13_eq (xs : List ByteArray) (k : Int) (h0 : 0 ≤ k) (h1 : k + cnt cStr xs ≤ 4611686018427387904) (h2 : xs.length ≤ 4611686018427387904) : c13 [.inl 1 (xs.map V.str), .int .i64 k] [] = some ⟨false, .int .i64 (k + cnt cStr xs), [.inl 1 ((mkL mkStr cStr k xs).map V.str)], []⟩ := ctrG_eq (injG str_inj _) (xs, k) ⟨h0, h1, h2⟩ rfl
theorem c13_ok : GOK Tryz.prog (13, [true], c13) := ctrG_ok fun a h => f13_ok a.1 a.2 h.1 h.2.1 h.2.2

theorem f62_ok (xs : List Fld) (k : Int) (h0 : 0 ≤ k) (h1 : k + cnt cFld xs ≤ 4611686018427387904) (h2 : xs.length ≤ 4611686018427387904) : GenOK Tryz.prog 62 [.inl 3 (xs.map Fld.v), .int .i64 k] [] ⟨false, .int .i64 (k + cnt cFld xs), [.inl 3 ((mkL mkFld cFld k xs).map Fld.v)], []⟩ := by
  refine fun_okG (mkE_ok zmix (cl := [(38, c38)]) (gl := []) [] c38_ok trivial) Tryz.func62 (by kernel_rfl) ?_
  refine FunG_run _ _ rfl rfl ?_
  have hlen := h2
  simp
  refine lp_list xs (fun i t => t.e 0 = .own 0 ∧ t.e 1 = .int .i64 (k + pre cFld xs i) ∧ t.e 5 = .int .i64 i ∧ t.nb = 0 ∧ 1 ≤ t.nt ∧ t.R 0 = some ⟨3, (mpart mkFld cFld k xs i).map Fld.v, true⟩) ?_ ?_ ?_
  · simp [pre_zero, mpart_zero]
  · rintro c' L hL i t x hx hi ih ⟨g0, g1, g5, gnb, gnt, gR⟩
    have hw : IntKind.i64.wrap ((i : Int) + 1) = ((i + 1 : Nat) : Int) := wrap64 (by omega) (by omega)
    have hp := pre_succ cFld hx
    have hp2 := pre_le cFld xs (i + 1)
    have hc : cFld x = 3 := rfl
    have hcnt : (xs.map cFld).sum = cnt cFld xs := rfl
    have e0 := c38_eq (k + (pre cFld xs i : Nat)) (by omega)
    have w0 : IntKind.i64.wrap (k + (pre cFld xs i : Nat) + 1) = k + (pre cFld xs i : Nat) + 1 := wrap64 (by omega) (by omega)
    have w1 : IntKind.i64.wrap (k + (pre cFld xs i : Nat) + 1 + 1) = k + (pre cFld xs i : Nat) + 1 + 1 := wrap64 (by omega) (by omega)
    have w2 : IntKind.i64.wrap (k + (pre cFld xs i : Nat) + 1 + 1 + 1) = k + (pre cFld xs i : Nat) + 1 + 1 + 1 := wrap64 (by omega) (by omega)
    have hx' := mpart_get (f := mkFld) (c := cFld) (k := k) hx
    simp [-getElem?_pos, List.getElem?_cons_zero, List.getElem?_cons_succ, g0, g1, g5, gnb, gR, hL, hx', hi, e0, w0, w1, w2]
    refine ih _ ?_
    simp [-getElem?_pos, List.getElem?_cons_zero, List.getElem?_cons_succ, g0, g1, g5, gnb, gR, hL, hx', hi, e0, w0, w1, w2, hp, hc, hw]
    first
      | exact ⟨by omega, by omega, mpart_setv hx rfl⟩
      | exact ⟨by omega, mpart_setv hx rfl⟩
      | exact mpart_setv hx rfl
  · rintro c' t ⟨g0, g1, g5, gnb, gnt, gR⟩
    simp only [pre_all] at g1
    simp [g0, g1, g5, gnb, gR, mpart_all, cnt]
noncomputable def c62 := ctrG (fun a : List Fld × Int => 0 ≤ a.2 ∧ a.2 + cnt cFld a.1 ≤ 4611686018427387904 ∧ (a.1.length ≤ 4611686018427387904)) (fun a => ([.inl 3 (a.1.map Fld.v), .int .i64 a.2], [])) (fun a => ⟨false, .int .i64 (a.2 + cnt cFld a.1), [.inl 3 ((mkL mkFld cFld a.2 a.1).map Fld.v)], []⟩)
theorem c62_eq (xs : List Fld) (k : Int) (h0 : 0 ≤ k) (h1 : k + cnt cFld xs ≤ 4611686018427387904) (h2 : xs.length ≤ 4611686018427387904) : c62 [.inl 3 (xs.map Fld.v), .int .i64 k] [] = some ⟨false, .int .i64 (k + cnt cFld xs), [.inl 3 ((mkL mkFld cFld k xs).map Fld.v)], []⟩ := ctrG_eq (injG Fld.v_inj _) (xs, k) ⟨h0, h1, h2⟩ rfl
theorem c62_ok : GOK Tryz.prog (62, [true], c62) := ctrG_ok fun a h => f62_ok a.1 a.2 h.1 h.2.1 h.2.2

theorem f63_ok (xs : List Par) (k : Int) (h0 : 0 ≤ k) (h1 : k + cnt cPar xs ≤ 4611686018427387904) (h2 : xs.length ≤ 4611686018427387904) : GenOK Tryz.prog 63 [.inl 3 (xs.map Par.v), .int .i64 k] [] ⟨false, .int .i64 (k + cnt cPar xs), [.inl 3 ((mkL mkPar cPar k xs).map Par.v)], []⟩ := by
  refine fun_okG (mkE_ok zmix (cl := [(38, c38)]) (gl := []) [] c38_ok trivial) Tryz.func63 (by kernel_rfl) ?_
  refine FunG_run _ _ rfl rfl ?_
  have hlen := h2
  simp
  refine lp_list xs (fun i t => t.e 0 = .own 0 ∧ t.e 1 = .int .i64 (k + pre cPar xs i) ∧ t.e 5 = .int .i64 i ∧ t.nb = 0 ∧ 1 ≤ t.nt ∧ t.R 0 = some ⟨3, (mpart mkPar cPar k xs i).map Par.v, true⟩) ?_ ?_ ?_
  · simp [pre_zero, mpart_zero]
  · rintro c' L hL i t x hx hi ih ⟨g0, g1, g5, gnb, gnt, gR⟩
    have hw : IntKind.i64.wrap ((i : Int) + 1) = ((i + 1 : Nat) : Int) := wrap64 (by omega) (by omega)
    have hp := pre_succ cPar hx
    have hp2 := pre_le cPar xs (i + 1)
    have hc : cPar x = 3 := rfl
    have hcnt : (xs.map cPar).sum = cnt cPar xs := rfl
    have e0 := c38_eq (k + (pre cPar xs i : Nat)) (by omega)
    have w0 : IntKind.i64.wrap (k + (pre cPar xs i : Nat) + 1) = k + (pre cPar xs i : Nat) + 1 := wrap64 (by omega) (by omega)
    have w1 : IntKind.i64.wrap (k + (pre cPar xs i : Nat) + 1 + 1) = k + (pre cPar xs i : Nat) + 1 + 1 := wrap64 (by omega) (by omega)
    have w2 : IntKind.i64.wrap (k + (pre cPar xs i : Nat) + 1 + 1 + 1) = k + (pre cPar xs i : Nat) + 1 + 1 + 1 := wrap64 (by omega) (by omega)
    have hx' := mpart_get (f := mkPar) (c := cPar) (k := k) hx
    simp [-getElem?_pos, List.getElem?_cons_zero, List.getElem?_cons_succ, g0, g1, g5, gnb, gR, hL, hx', hi, e0, w0, w1, w2]
    refine ih _ ?_
    simp [-getElem?_pos, List.getElem?_cons_zero, List.getElem?_cons_succ, g0, g1, g5, gnb, gR, hL, hx', hi, e0, w0, w1, w2, hp, hc, hw]
    first
      | exact ⟨by omega, by omega, mpart_setv hx rfl⟩
      | exact ⟨by omega, mpart_setv hx rfl⟩
      | exact mpart_setv hx rfl
  · rintro c' t ⟨g0, g1, g5, gnb, gnt, gR⟩
    simp only [pre_all] at g1
    simp [g0, g1, g5, gnb, gR, mpart_all, cnt]
noncomputable def c63 := ctrG (fun a : List Par × Int => 0 ≤ a.2 ∧ a.2 + cnt cPar a.1 ≤ 4611686018427387904 ∧ (a.1.length ≤ 4611686018427387904)) (fun a => ([.inl 3 (a.1.map Par.v), .int .i64 a.2], [])) (fun a => ⟨false, .int .i64 (a.2 + cnt cPar a.1), [.inl 3 ((mkL mkPar cPar a.2 a.1).map Par.v)], []⟩)
theorem c63_eq (xs : List Par) (k : Int) (h0 : 0 ≤ k) (h1 : k + cnt cPar xs ≤ 4611686018427387904) (h2 : xs.length ≤ 4611686018427387904) : c63 [.inl 3 (xs.map Par.v), .int .i64 k] [] = some ⟨false, .int .i64 (k + cnt cPar xs), [.inl 3 ((mkL mkPar cPar k xs).map Par.v)], []⟩ := ctrG_eq (injG Par.v_inj _) (xs, k) ⟨h0, h1, h2⟩ rfl
theorem c63_ok : GOK Tryz.prog (63, [true], c63) := ctrG_ok fun a h => f63_ok a.1 a.2 h.1 h.2.1 h.2.2

theorem f37_ok (xs : List Use) (k : Int) (h0 : 0 ≤ k) (h1 : k + cnt cUse xs ≤ 4611686018427387904) (h2 : xs.length ≤ 4611686018427387904) : GenOK Tryz.prog 37 [.inl 2 (xs.map Use.v), .int .i64 k] [] ⟨false, .int .i64 (k + cnt cUse xs), [.inl 2 ((mkL mkUse cUse k xs).map Use.v)], []⟩ := by
  refine fun_okG (mkE_ok zmix (cl := [(38, c38)]) (gl := []) [] c38_ok trivial) Tryz.func37 (by kernel_rfl) ?_
  refine FunG_run _ _ rfl rfl ?_
  have hlen := h2
  simp
  refine lp_list xs (fun i t => t.e 0 = .own 0 ∧ t.e 1 = .int .i64 (k + pre cUse xs i) ∧ t.e 5 = .int .i64 i ∧ t.nb = 0 ∧ 1 ≤ t.nt ∧ t.R 0 = some ⟨2, (mpart mkUse cUse k xs i).map Use.v, true⟩) ?_ ?_ ?_
  · simp [pre_zero, mpart_zero]
  · rintro c' L hL i t x hx hi ih ⟨g0, g1, g5, gnb, gnt, gR⟩
    have hw : IntKind.i64.wrap ((i : Int) + 1) = ((i + 1 : Nat) : Int) := wrap64 (by omega) (by omega)
    have hp := pre_succ cUse hx
    have hp2 := pre_le cUse xs (i + 1)
    have hc : cUse x = 2 := rfl
    have hcnt : (xs.map cUse).sum = cnt cUse xs := rfl
    have e0 := c38_eq (k + (pre cUse xs i : Nat)) (by omega)
    have w0 : IntKind.i64.wrap (k + (pre cUse xs i : Nat) + 1) = k + (pre cUse xs i : Nat) + 1 := wrap64 (by omega) (by omega)
    have e1 := c38_eq (k + (pre cUse xs i : Nat) + 1) (by omega)
    have w1 : IntKind.i64.wrap (k + (pre cUse xs i : Nat) + 1 + 1) = k + (pre cUse xs i : Nat) + 1 + 1 := wrap64 (by omega) (by omega)
    have hx' := mpart_get (f := mkUse) (c := cUse) (k := k) hx
    simp [-getElem?_pos, List.getElem?_cons_zero, List.getElem?_cons_succ, g0, g1, g5, gnb, gR, hL, hx', hi, e0, w0, e1, w1]
    refine ih _ ?_
    simp [-getElem?_pos, List.getElem?_cons_zero, List.getElem?_cons_succ, g0, g1, g5, gnb, gR, hL, hx', hi, e0, w0, e1, w1, hp, hc, hw]
    first
      | exact ⟨by omega, by omega, mpart_setv hx rfl⟩
      | exact ⟨by omega, mpart_setv hx rfl⟩
      | exact mpart_setv hx rfl
  · rintro c' t ⟨g0, g1, g5, gnb, gnt, gR⟩
    simp only [pre_all] at g1
    simp [g0, g1, g5, gnb, gR, mpart_all, cnt]
noncomputable def c37 := ctrG (fun a : List Use × Int => 0 ≤ a.2 ∧ a.2 + cnt cUse a.1 ≤ 4611686018427387904 ∧ (a.1.length ≤ 4611686018427387904)) (fun a => ([.inl 2 (a.1.map Use.v), .int .i64 a.2], [])) (fun a => ⟨false, .int .i64 (a.2 + cnt cUse a.1), [.inl 2 ((mkL mkUse cUse a.2 a.1).map Use.v)], []⟩)
theorem c37_eq (xs : List Use) (k : Int) (h0 : 0 ≤ k) (h1 : k + cnt cUse xs ≤ 4611686018427387904) (h2 : xs.length ≤ 4611686018427387904) : c37 [.inl 2 (xs.map Use.v), .int .i64 k] [] = some ⟨false, .int .i64 (k + cnt cUse xs), [.inl 2 ((mkL mkUse cUse k xs).map Use.v)], []⟩ := ctrG_eq (injG Use.v_inj _) (xs, k) ⟨h0, h1, h2⟩ rfl
theorem c37_ok : GOK Tryz.prog (37, [true], c37) := ctrG_ok fun a h => f37_ok a.1 a.2 h.1 h.2.1 h.2.2

theorem f35_ok (xs : List Ty) (k : Int) (h0 : 0 ≤ k) (h1 : k + cnt cTy xs ≤ 4611686018427387904) (h2 : xs.length ≤ 4611686018427387904 ∧ ∀ x ∈ xs, x.fields.length ≤ 4611686018427387904) : GenOK Tryz.prog 35 [.inl 6 (xs.map Ty.o), .int .i64 k] [] ⟨false, .int .i64 (k + cnt cTy xs), [.inl 6 ((mkL mkTy cTy k xs).map Ty.o)], []⟩ := by
  refine fun_okG (mkE_ok zmix (cl := [(38, c38)]) (gl := [(62, [true], c62)]) [] c38_ok c62_ok) Tryz.func35 (by kernel_rfl) ?_
  refine FunG_run _ _ rfl rfl ?_
  have hlen := h2.1
  simp
  refine lp_list xs (fun i t => t.e 0 = .own 0 ∧ t.e 1 = .int .i64 (k + pre cTy xs i) ∧ t.e 5 = .int .i64 i ∧ t.nb = 0 ∧ 1 ≤ t.nt ∧ t.R 0 = some ⟨6, (mpart mkTy cTy k xs i).map Ty.o, true⟩) ?_ ?_ ?_
  · simp [pre_zero, mpart_zero]
  · rintro c' L hL i t x hx hi ih ⟨g0, g1, g5, gnb, gnt, gR⟩
    have hw : IntKind.i64.wrap ((i : Int) + 1) = ((i + 1 : Nat) : Int) := wrap64 (by omega) (by omega)
    have hp := pre_succ cTy hx
    have hp2 := pre_le cTy xs (i + 1)
    have hc : cTy x = 5+cnt cFld x.fields := rfl
    have hcnt : (xs.map cTy).sum = cnt cTy xs := rfl
    have hlen3 : x.fields.length ≤ 4611686018427387904 := h2.2 x (List.mem_of_getElem? hx)
    have w0 : IntKind.i64.wrap (k + (pre cTy xs i : Nat) + 1) = k + (pre cTy xs i : Nat) + 1 := wrap64 (by omega) (by omega)
    have w1 : IntKind.i64.wrap (k + (pre cTy xs i : Nat) + 1 + 1) = k + (pre cTy xs i : Nat) + 1 + 1 := wrap64 (by omega) (by omega)
    have w2 : IntKind.i64.wrap (k + (pre cTy xs i : Nat) + 1 + 1 + 1) = k + (pre cTy xs i : Nat) + 1 + 1 + 1 := wrap64 (by omega) (by omega)
    have e3 := c62_eq x.fields (k + (pre cTy xs i : Nat) + 1 + 1 + 1) (by omega) (by omega) hlen3
    have e4 := c38_eq (k + (pre cTy xs i : Nat) + 1 + 1 + 1 + (cnt cFld x.fields : Nat)) (by omega)
    have w4 : IntKind.i64.wrap (k + (pre cTy xs i : Nat) + 1 + 1 + 1 + (cnt cFld x.fields : Nat) + 1) = k + (pre cTy xs i : Nat) + 1 + 1 + 1 + (cnt cFld x.fields : Nat) + 1 := wrap64 (by omega) (by omega)
    have e5 := c38_eq (k + (pre cTy xs i : Nat) + 1 + 1 + 1 + (cnt cFld x.fields : Nat) + 1) (by omega)
    have w5 : IntKind.i64.wrap (k + (pre cTy xs i : Nat) + 1 + 1 + 1 + (cnt cFld x.fields : Nat) + 1 + 1) = k + (pre cTy xs i : Nat) + 1 + 1 + 1 + (cnt cFld x.fields : Nat) + 1 + 1 := wrap64 (by omega) (by omega)
    have hx' := mpart_get (f := mkTy) (c := cTy) (k := k) hx
    simp [-getElem?_pos, List.getElem?_cons_zero, List.getElem?_cons_succ, g0, g1, g5, gnb, gR, hL, hx', hi, w0, w1, w2, e3, e4, w4, e5, w5]
    refine ih _ ?_
    simp [-getElem?_pos, List.getElem?_cons_zero, List.getElem?_cons_succ, g0, g1, g5, gnb, gR, hL, hx', hi, w0, w1, w2, e3, e4, w4, e5, w5, hp, hc, hw]
    first
      | exact ⟨by omega, by omega, mpart_setv hx rfl⟩
      | exact ⟨by omega, mpart_setv hx rfl⟩
      | exact mpart_setv hx rfl
  · rintro c' t ⟨g0, g1, g5, gnb, gnt, gR⟩
    simp only [pre_all] at g1
    simp [g0, g1, g5, gnb, gR, mpart_all, cnt]
noncomputable def c35 := ctrG (fun a : List Ty × Int => 0 ≤ a.2 ∧ a.2 + cnt cTy a.1 ≤ 4611686018427387904 ∧ (a.1.length ≤ 4611686018427387904 ∧ ∀ x ∈ a.1, x.fields.length ≤ 4611686018427387904)) (fun a => ([.inl 6 (a.1.map Ty.o), .int .i64 a.2], [])) (fun a => ⟨false, .int .i64 (a.2 + cnt cTy a.1), [.inl 6 ((mkL mkTy cTy a.2 a.1).map Ty.o)], []⟩)
theorem c35_eq (xs : List Ty) (k : Int) (h0 : 0 ≤ k) (h1 : k + cnt cTy xs ≤ 4611686018427387904) (h2 : xs.length ≤ 4611686018427387904 ∧ ∀ x ∈ xs, x.fields.length ≤ 4611686018427387904) : c35 [.inl 6 (xs.map Ty.o), .int .i64 k] [] = some ⟨false, .int .i64 (k + cnt cTy xs), [.inl 6 ((mkL mkTy cTy k xs).map Ty.o)], []⟩ := ctrG_eq (injG Ty.o_inj _) (xs, k) ⟨h0, h1, h2⟩ rfl
theorem c35_ok : GOK Tryz.prog (35, [true], c35) := ctrG_ok fun a h => f35_ok a.1 a.2 h.1 h.2.1 h.2.2

theorem f36_ok (xs : List Obj) (k : Int) (h0 : 0 ≤ k) (h1 : k + cnt cObj xs ≤ 4611686018427387904) (h2 : xs.length ≤ 4611686018427387904 ∧ ∀ x ∈ xs, x.params.length ≤ 4611686018427387904) : GenOK Tryz.prog 36 [.inl 6 (xs.map Obj.o), .int .i64 k] [] ⟨false, .int .i64 (k + cnt cObj xs), [.inl 6 ((mkL mkObj cObj k xs).map Obj.o)], []⟩ := by
  refine fun_okG (mkE_ok zmix (cl := [(38, c38)]) (gl := [(63, [true], c63)]) [] c38_ok c63_ok) Tryz.func36 (by kernel_rfl) ?_
  refine FunG_run _ _ rfl rfl ?_
  have hlen := h2.1
  simp
  refine lp_list xs (fun i t => t.e 0 = .own 0 ∧ t.e 1 = .int .i64 (k + pre cObj xs i) ∧ t.e 5 = .int .i64 i ∧ t.nb = 0 ∧ 1 ≤ t.nt ∧ t.R 0 = some ⟨6, (mpart mkObj cObj k xs i).map Obj.o, true⟩) ?_ ?_ ?_
  · simp [pre_zero, mpart_zero]
  · rintro c' L hL i t x hx hi ih ⟨g0, g1, g5, gnb, gnt, gR⟩
    have hw : IntKind.i64.wrap ((i : Int) + 1) = ((i + 1 : Nat) : Int) := wrap64 (by omega) (by omega)
    have hp := pre_succ cObj hx
    have hp2 := pre_le cObj xs (i + 1)
    have hc : cObj x = 5+cnt cPar x.params := rfl
    have hcnt : (xs.map cObj).sum = cnt cObj xs := rfl
    have hlen5 : x.params.length ≤ 4611686018427387904 := h2.2 x (List.mem_of_getElem? hx)
    have e0 := c38_eq (k + (pre cObj xs i : Nat)) (by omega)
    have w0 : IntKind.i64.wrap (k + (pre cObj xs i : Nat) + 1) = k + (pre cObj xs i : Nat) + 1 := wrap64 (by omega) (by omega)
    have w1 : IntKind.i64.wrap (k + (pre cObj xs i : Nat) + 1 + 1) = k + (pre cObj xs i : Nat) + 1 + 1 := wrap64 (by omega) (by omega)
    have w2 : IntKind.i64.wrap (k + (pre cObj xs i : Nat) + 1 + 1 + 1) = k + (pre cObj xs i : Nat) + 1 + 1 + 1 := wrap64 (by omega) (by omega)
    have w3 : IntKind.i64.wrap (k + (pre cObj xs i : Nat) + 1 + 1 + 1 + 1) = k + (pre cObj xs i : Nat) + 1 + 1 + 1 + 1 := wrap64 (by omega) (by omega)
    have w4 : IntKind.i64.wrap (k + (pre cObj xs i : Nat) + 1 + 1 + 1 + 1 + 1) = k + (pre cObj xs i : Nat) + 1 + 1 + 1 + 1 + 1 := wrap64 (by omega) (by omega)
    have e5 := c63_eq x.params (k + (pre cObj xs i : Nat) + 1 + 1 + 1 + 1 + 1) (by omega) (by omega) hlen5
    have hx' := mpart_get (f := mkObj) (c := cObj) (k := k) hx
    simp [-getElem?_pos, List.getElem?_cons_zero, List.getElem?_cons_succ, g0, g1, g5, gnb, gR, hL, hx', hi, e0, w0, w1, w2, w3, w4, e5]
    refine ih _ ?_
    simp [-getElem?_pos, List.getElem?_cons_zero, List.getElem?_cons_succ, g0, g1, g5, gnb, gR, hL, hx', hi, e0, w0, w1, w2, w3, w4, e5, hp, hc, hw]
    first
      | exact ⟨by omega, by omega, mpart_setv hx rfl⟩
      | exact ⟨by omega, mpart_setv hx rfl⟩
      | exact mpart_setv hx rfl
  · rintro c' t ⟨g0, g1, g5, gnb, gnt, gR⟩
    simp only [pre_all] at g1
    simp [g0, g1, g5, gnb, gR, mpart_all, cnt]
noncomputable def c36 := ctrG (fun a : List Obj × Int => 0 ≤ a.2 ∧ a.2 + cnt cObj a.1 ≤ 4611686018427387904 ∧ (a.1.length ≤ 4611686018427387904 ∧ ∀ x ∈ a.1, x.params.length ≤ 4611686018427387904)) (fun a => ([.inl 6 (a.1.map Obj.o), .int .i64 a.2], [])) (fun a => ⟨false, .int .i64 (a.2 + cnt cObj a.1), [.inl 6 ((mkL mkObj cObj a.2 a.1).map Obj.o)], []⟩)
theorem c36_eq (xs : List Obj) (k : Int) (h0 : 0 ≤ k) (h1 : k + cnt cObj xs ≤ 4611686018427387904) (h2 : xs.length ≤ 4611686018427387904 ∧ ∀ x ∈ xs, x.params.length ≤ 4611686018427387904) : c36 [.inl 6 (xs.map Obj.o), .int .i64 k] [] = some ⟨false, .int .i64 (k + cnt cObj xs), [.inl 6 ((mkL mkObj cObj k xs).map Obj.o)], []⟩ := ctrG_eq (injG Obj.o_inj _) (xs, k) ⟨h0, h1, h2⟩ rfl
theorem c36_ok : GOK Tryz.prog (36, [true], c36) := ctrG_ok fun a h => f36_ok a.1 a.2 h.1 h.2.1 h.2.2

end Go.TM.Tryz
end
section
set_option maxHeartbeats 2000000
set_option linter.unusedSimpArgs false
set_option linter.unusedVariables false
namespace Go.TM.Tryz
open Go Go.TM Go.Proofs
theorem f14_ok (xs : List ByteArray) (k : Int) (h0 : 0 ≤ k) (h1 : k + cnt cStr xs ≤ 4611686018427387904) (h2 : xs.length ≤ 4611686018427387904) : FunOK Tryz.prog 14 [.lst ((mkL mkStr cStr k xs).map V.str), .int .i64 k] false (.int .i64 (k + cnt cStr xs)) := by
  refine fun_ok (mkE_ok zmix (cl := [(38, c38)]) (gl := []) [] c38_ok trivial) Tryz.func14 (by kernel_rfl) ?_
  refine FunW_run _ _ rfl rfl ?_
  simp
  refine lp_list xs (fun i t => t.e 0 = .lst ((mkL mkStr cStr k xs).map V.str) ∧ t.e 1 = .int .i64 (k + pre cStr xs i) ∧ t.e 5 = .int .i64 i) ?_ ?_ ?_
  · simp [pre_zero]
  · rintro c' L hL i t x hx hi ih ⟨g0, g1, g5⟩
    have hw : IntKind.i64.wrap ((i : Int) + 1) = ((i + 1 : Nat) : Int) := wrap64 (by omega) (by omega)
    have hp := pre_succ cStr hx
    have hp2 := pre_le cStr xs (i + 1)
    have hc : cStr x = 1 := rfl
    have hcnt : (xs.map cStr).sum = cnt cStr xs := rfl
    have e0 := c38_eq (k + (pre cStr xs i : Nat)) (by omega)
    have w0 : IntKind.i64.wrap (k + (pre cStr xs i : Nat) + 1) = k + (pre cStr xs i : Nat) + 1 := wrap64 (by omega) (by omega)
    have hx' := mkL_get mkStr cStr k hx
    simp [-getElem?_pos, List.getElem?_cons_zero, List.getElem?_cons_succ, g0, g1, g5, hL, hx', hi, mkStr, e0, w0]
    refine ih _ ?_
    simp [-getElem?_pos, List.getElem?_cons_zero, List.getElem?_cons_succ, g0, g1, g5, hL, hx', hi, e0, w0, hp, hc, hw] <;> omega
  · rintro c' t ⟨g0, g1, g5⟩
    simp only [pre_all] at g1
    simp [g0, g1, g5, cnt]
noncomputable def c14 := ctr (fun a : List ByteArray × Int => 0 ≤ a.2 ∧ a.2 + cnt cStr a.1 ≤ 4611686018427387904 ∧ a.1.length ≤ 4611686018427387904) (fun a => [.lst ((mkL mkStr cStr a.2 a.1).map V.str), .int .i64 a.2]) (fun a => (false, .int .i64 (a.2 + cnt cStr a.1)))
theorem c14_eq (xs : List ByteArray) (k : Int) (h0 : 0 ≤ k) (h1 : k + cnt cStr xs ≤ 4611686018427387904) (h2 : xs.length ≤ 4611686018427387904) : c14 [.lst ((mkL mkStr cStr k xs).map V.str), .int .i64 k] = some (false, .int .i64 (k + cnt cStr xs)) := ctr_eq (injH (fun _ => rfl)) (xs, k) ⟨h0, h1, h2⟩ rfl
theorem c14_ok : COK Tryz.prog (14, c14) := ctr_ok fun a h => f14_ok a.1 a.2 h.1 h.2.1 h.2.2

theorem f12_ok (x : Scp) (k : Int) (h0 : 0 ≤ k) (h1 : k + (cnt cStr x.imports : Nat) + (cnt cTy x.types : Nat) + (cnt cObj x.objects : Nat) + (cnt cUse x.uses : Nat) ≤ 4611686018427387904) (h2 : x.imports.length ≤ 4611686018427387904 ∧ (x.types.length ≤ 4611686018427387904 ∧ ∀ y ∈ x.types, y.fields.length ≤ 4611686018427387904) ∧ (x.objects.length ≤ 4611686018427387904 ∧ ∀ y ∈ x.objects, y.params.length ≤ 4611686018427387904) ∧ x.uses.length ≤ 4611686018427387904) : GenOK Tryz.prog 12 [x.o, .int .i64 k] [] ⟨false, .int .i64 (k + (cnt cStr x.imports : Nat) + (cnt cTy x.types : Nat) + (cnt cObj x.objects : Nat) + (cnt cUse x.uses : Nat)), [.inl 1 ((mkL mkStr cStr (k) x.imports).map V.str), .inl 6 ((mkL mkTy cTy (k + (cnt cStr x.imports : Nat)) x.types).map Ty.o), .inl 6 ((mkL mkObj cObj (k + (cnt cStr x.imports : Nat) + (cnt cTy x.types : Nat)) x.objects).map Obj.o), .inl 2 ((mkL mkUse cUse (k + (cnt cStr x.imports : Nat) + (cnt cTy x.types : Nat) + (cnt cObj x.objects : Nat)) x.uses).map Use.v)], []⟩ := by
  refine fun_okG (mkE_ok zmix (cl := []) (gl := [(13, [true], c13), (35, [true], c35), (36, [true], c36), (37, [true], c37)]) [] trivial ⟨c13_ok, c35_ok, c36_ok, c37_ok⟩) Tryz.func12 (by kernel_rfl) ?_
  refine FunG_run _ _ rfl rfl ?_
  have e0 := c13_eq x.imports (k) (by omega) (by omega) h2.1
  have e1 := c35_eq x.types (k + (cnt cStr x.imports : Nat)) (by omega) (by omega) h2.2.1
  have e2 := c36_eq x.objects (k + (cnt cStr x.imports : Nat) + (cnt cTy x.types : Nat)) (by omega) (by omega) h2.2.2.1
  have e3 := c37_eq x.uses (k + (cnt cStr x.imports : Nat) + (cnt cTy x.types : Nat) + (cnt cObj x.objects : Nat)) (by omega) (by omega) h2.2.2.2
  simp [e0, e1, e2, e3]
noncomputable def c12 := ctrG (fun a : Scp × Int => match a with | (x, k) => 0 ≤ k ∧ k + (cnt cStr x.imports : Nat) + (cnt cTy x.types : Nat) + (cnt cObj x.objects : Nat) + (cnt cUse x.uses : Nat) ≤ 4611686018427387904 ∧ x.imports.length ≤ 4611686018427387904 ∧ (x.types.length ≤ 4611686018427387904 ∧ ∀ y ∈ x.types, y.fields.length ≤ 4611686018427387904) ∧ (x.objects.length ≤ 4611686018427387904 ∧ ∀ y ∈ x.objects, y.params.length ≤ 4611686018427387904) ∧ x.uses.length ≤ 4611686018427387904) (fun a => ([a.1.o, .int .i64 a.2], [])) (fun a => match a with | (x, k) => ⟨false, .int .i64 (k + (cnt cStr x.imports : Nat) + (cnt cTy x.types : Nat) + (cnt cObj x.objects : Nat) + (cnt cUse x.uses : Nat)), [.inl 1 ((mkL mkStr cStr (k) x.imports).map V.str), .inl 6 ((mkL mkTy cTy (k + (cnt cStr x.imports : Nat)) x.types).map Ty.o), .inl 6 ((mkL mkObj cObj (k + (cnt cStr x.imports : Nat) + (cnt cTy x.types : Nat)) x.objects).map Obj.o), .inl 2 ((mkL mkUse cUse (k + (cnt cStr x.imports : Nat) + (cnt cTy x.types : Nat) + (cnt cObj x.objects : Nat)) x.uses).map Use.v)], []⟩)
theorem c12_eq (x : Scp) (k : Int) (h0 : 0 ≤ k) (h1 : k + (cnt cStr x.imports : Nat) + (cnt cTy x.types : Nat) + (cnt cObj x.objects : Nat) + (cnt cUse x.uses : Nat) ≤ 4611686018427387904) (h2 : x.imports.length ≤ 4611686018427387904 ∧ (x.types.length ≤ 4611686018427387904 ∧ ∀ y ∈ x.types, y.fields.length ≤ 4611686018427387904) ∧ (x.objects.length ≤ 4611686018427387904 ∧ ∀ y ∈ x.objects, y.params.length ≤ 4611686018427387904) ∧ x.uses.length ≤ 4611686018427387904) : c12 [x.o, .int .i64 k] [] = some ⟨false, .int .i64 (k + (cnt cStr x.imports : Nat) + (cnt cTy x.types : Nat) + (cnt cObj x.objects : Nat) + (cnt cUse x.uses : Nat)), [.inl 1 ((mkL mkStr cStr (k) x.imports).map V.str), .inl 6 ((mkL mkTy cTy (k + (cnt cStr x.imports : Nat)) x.types).map Ty.o), .inl 6 ((mkL mkObj cObj (k + (cnt cStr x.imports : Nat) + (cnt cTy x.types : Nat)) x.objects).map Obj.o), .inl 2 ((mkL mkUse cUse (k + (cnt cStr x.imports : Nat) + (cnt cTy x.types : Nat) + (cnt cObj x.objects : Nat)) x.uses).map Use.v)], []⟩ := ctrG_eq (injG1 Scp.o_inj _) (x, k) ⟨h0, h1, h2⟩ rfl
theorem c12_ok : GOK Tryz.prog (12, [true], c12) := ctrG_ok fun a h => f12_ok a.1 a.2 h.1 h.2.1 h.2.2

end Go.TM.Tryz
end
section
set_option maxHeartbeats 2000000
set_option linter.unusedSimpArgs false
set_option linter.unusedVariables false
namespace Go.TM.Tryz
open Go Go.TM Go.Proofs
theorem f22_ok (xs : List ByteArray) (left : Int) (hlim : limL strLim xs) (hl0 : 0 ≤ left) (hl1 : left ≤ 1048576) : FunOK Tryz.prog 22 [.lst (xs.map V.str), .int .i64 left] false (.int .i64 (szR (szL ByteArray.size xs) left)) := by
  refine fun_ok (mkE_ok zmix (cl := []) (gl := []) [] trivial trivial) Tryz.func22 (by kernel_rfl) ?_
  refine FunW_run _ _ rfl rfl ?_
  have hlen := hlim.1
  simp only [lim] at hlen
  have hl := szL_len ByteArray.size xs
  have w0 : IntKind.i64.wrap (left - (xs.length : Int)) = left - xs.length := wrap64 (by omega) (by omega)
  by_cases a0 : left < xs.length
  · have b0 : left - (xs.length : Int) < 0 := by omega
    have r : szR (szL ByteArray.size xs) left = -1 := szR_lt (by omega)
    simp [w0, b0, r]
  have b0 : ¬ left - (xs.length : Int) < 0 := by omega
  simp [w0, b0]
  refine lp_list xs (fun i t => t.e 0 = .lst (xs.map V.str) ∧ t.e 5 = .int .i64 i ∧ t.e 1 = .int .i64 (left - xs.length - pre ByteArray.size xs i) ∧ 0 ≤ left - xs.length - pre ByteArray.size xs i) ?_ ?_ ?_
  · simp [pre_zero]
    omega
  · rintro c' L hL i t x hx hi ih ⟨h0, h5, h1', hge⟩
    have hw : IntKind.i64.wrap ((i : Int) + 1) = ((i + 1 : Nat) : Int) := wrap64 (by omega) (by omega)
    have hp := pre_succ ByteArray.size hx
    have hp2 := pre_le ByteArray.size xs (i + 1)
    have w : IntKind.i64.wrap (left - xs.length - pre ByteArray.size xs i - (x.size : Int)) = left - xs.length - pre ByteArray.size xs i - x.size := by
      have := hlim.2 x (List.mem_of_getElem? hx)
      simp only [strLim, lim] at this
      exact wrap64 (by omega) (by omega)
    by_cases a : left - xs.length - pre ByteArray.size xs i < (x.size : Int)
    · have b : left - xs.length - pre ByteArray.size xs i - (x.size : Int) < 0 := by omega
      have r : szR (szL ByteArray.size xs) left = -1 := szR_lt (by simp only [szL]; omega)
      simp [-getElem?_pos, List.getElem?_cons_zero, List.getElem?_cons_succ, h0, h1', h5, hL, hx, hi, w, b, r]
    have b : ¬ left - xs.length - pre ByteArray.size xs i - (x.size : Int) < 0 := by omega
    simp [-getElem?_pos, List.getElem?_cons_zero, List.getElem?_cons_succ, h0, h1', h5, hL, hx, hi, w, b]
    refine ih _ ?_
    simp [-getElem?_pos, List.getElem?_cons_zero, List.getElem?_cons_succ, h0, h1', h5, hL, hx, hi, hw, hp]
    omega
  · rintro c' t ⟨h0, h5, h1', hge⟩
    rw [pre_all] at h1' hge
    have r : szR (szL ByteArray.size xs) left = left - xs.length - ((xs.map ByteArray.size).sum : Nat) := by rw [szR_ge (by simp only [szL]; omega)]; simp only [szL]; omega
    simp [h0, h5, h1', r]
noncomputable def c22 := ctr (fun a : List ByteArray × Int => limL strLim a.1 ∧ 0 ≤ a.2 ∧ a.2 ≤ 1048576) (fun a => [.lst (a.1.map V.str), .int .i64 a.2]) (fun a => (false, .int .i64 (szR (szL ByteArray.size a.1) a.2)))
theorem c22_eq (xs : List ByteArray) (left : Int) (h : limL strLim xs) (h0 : 0 ≤ left) (h1 : left ≤ 1048576) : c22 [.lst (xs.map V.str), .int .i64 left] = some (false, .int .i64 (szR (szL ByteArray.size xs) left)) := ctr_eq (injl1 str_inj _) (xs, left) ⟨h, h0, h1⟩ rfl
theorem c22_ok : COK Tryz.prog (22, c22) := ctr_ok fun a h => f22_ok a.1 a.2 h.1 h.2.1 h.2.2

theorem f85_ok (x : Fld) (left : Int) (h : x.lim) (h0 : 0 ≤ left) (h1 : left ≤ 1048576) : FunOK Tryz.prog 85 [x.v, .int .i64 left] false (.int .i64 (szR x.sz left)) := by
  refine fun_ok (mkE_ok zmix (cl := []) (gl := []) [] trivial trivial) Tryz.func85 (by kernel_rfl) ?_
  refine FunW_run _ _ rfl rfl ?_
  simp only [Fld.lim, lim] at h
  have l0 := h
  have w0 : IntKind.i64.wrap (left - (x.name.size : Int)) = left - (x.name.size : Nat) := wrap64 (by omega) (by omega)
  by_cases a0 : left < (x.name.size : Nat)
  · have b0 : left - ((x.name.size : Nat) : Int) < 0 := by omega
    have r : szR x.sz left = -1 := szR_lt (by simp only [Fld.sz]; omega)
    simp [w0, b0, r]
  have b0 : ¬ left - ((x.name.size : Nat) : Int) < 0 := by omega
  have r : szR x.sz left = left - ((x.name.size : Nat) : Int) := (szR_ge (by simp only [Fld.sz]; omega)).trans (by simp only [Fld.sz] <;> omega)
  simp [w0, b0, r]
noncomputable def c85 := ctr (fun a : Fld × Int => a.1.lim ∧ 0 ≤ a.2 ∧ a.2 ≤ 1048576) (fun a => [a.1.v, .int .i64 a.2]) (fun a => (false, .int .i64 (szR a.1.sz a.2)))
theorem c85_eq (x : Fld) (left : Int) (h : x.lim) (h0 : 0 ≤ left) (h1 : left ≤ 1048576) : c85 [x.v, .int .i64 left] = some (false, .int .i64 (szR x.sz left)) := ctr_eq (inj1 Fld.v_inj _) (x, left) ⟨h, h0, h1⟩ rfl
theorem c85_ok : COK Tryz.prog (85, c85) := ctr_ok fun a h => f85_ok a.1 a.2 h.1 h.2.1 h.2.2

theorem f68_ok (xs : List Fld) (left : Int) (hlim : limL Fld.lim xs) (hl0 : 0 ≤ left) (hl1 : left ≤ 1048576) : FunOK Tryz.prog 68 [.lst (xs.map Fld.v), .int .i64 left] false (.int .i64 (szR (szL Fld.sz xs) left)) := by
  refine fun_ok (mkE_ok zmix (cl := [(85, c85)]) (gl := []) [] c85_ok trivial) Tryz.func68 (by kernel_rfl) ?_
  refine FunW_run _ _ rfl rfl ?_
  have hlen := hlim.1
  simp only [lim] at hlen
  have hl := szL_len Fld.sz xs
  have w0 : IntKind.i64.wrap (left - (xs.length : Int)) = left - xs.length := wrap64 (by omega) (by omega)
  by_cases a0 : left < xs.length
  · have b0 : left - (xs.length : Int) < 0 := by omega
    have r : szR (szL Fld.sz xs) left = -1 := szR_lt (by omega)
    simp [w0, b0, r]
  have b0 : ¬ left - (xs.length : Int) < 0 := by omega
  simp [w0, b0]
  refine lp_list xs (fun i t => t.e 0 = .lst (xs.map Fld.v) ∧ t.e 5 = .int .i64 i ∧ t.e 1 = .int .i64 (left - xs.length - pre Fld.sz xs i) ∧ 0 ≤ left - xs.length - pre Fld.sz xs i) ?_ ?_ ?_
  · simp [pre_zero]
    omega
  · rintro c' L hL i t x hx hi ih ⟨h0, h5, h1', hge⟩
    have hw : IntKind.i64.wrap ((i : Int) + 1) = ((i + 1 : Nat) : Int) := wrap64 (by omega) (by omega)
    have hp := pre_succ Fld.sz hx
    have hp2 := pre_le Fld.sz xs (i + 1)
    have w := c85_eq x (left - xs.length - pre Fld.sz xs i) (hlim.2 x (List.mem_of_getElem? hx)) (by omega) (by omega)
    simp only [Fld.v] at w
    by_cases a : left - xs.length - pre Fld.sz xs i < (Fld.sz x : Nat)
    · rw [szR_lt a] at w
      have r : szR (szL Fld.sz xs) left = -1 := szR_lt (by simp only [szL]; omega)
      simp [-getElem?_pos, List.getElem?_cons_zero, List.getElem?_cons_succ, h0, h1', h5, hL, hx, hi, w, r]
    rw [szR_ge (Int.not_lt.1 a)] at w
    have b : ¬ left - xs.length - pre Fld.sz xs i - (Fld.sz x : Nat) < 0 := by omega
    simp [-getElem?_pos, List.getElem?_cons_zero, List.getElem?_cons_succ, h0, h1', h5, hL, hx, hi, w, b]
    refine ih _ ?_
    simp [-getElem?_pos, List.getElem?_cons_zero, List.getElem?_cons_succ, h0, h1', h5, hL, hx, hi, hw, hp]
    omega
  · rintro c' t ⟨h0, h5, h1', hge⟩
    rw [pre_all] at h1' hge
    have r : szR (szL Fld.sz xs) left = left - xs.length - ((xs.map Fld.sz).sum : Nat) := by rw [szR_ge (by simp only [szL]; omega)]; simp only [szL]; omega
    simp [h0, h5, h1', r]
noncomputable def c68 := ctr (fun a : List Fld × Int => limL Fld.lim a.1 ∧ 0 ≤ a.2 ∧ a.2 ≤ 1048576) (fun a => [.lst (a.1.map Fld.v), .int .i64 a.2]) (fun a => (false, .int .i64 (szR (szL Fld.sz a.1) a.2)))
theorem c68_eq (xs : List Fld) (left : Int) (h : limL Fld.lim xs) (h0 : 0 ≤ left) (h1 : left ≤ 1048576) : c68 [.lst (xs.map Fld.v), .int .i64 left] = some (false, .int .i64 (szR (szL Fld.sz xs) left)) := ctr_eq (injl1 Fld.v_inj _) (xs, left) ⟨h, h0, h1⟩ rfl
theorem c68_ok : COK Tryz.prog (68, c68) := ctr_ok fun a h => f68_ok a.1 a.2 h.1 h.2.1 h.2.2

theorem f86_ok (x : Par) (left : Int) (h : x.lim) (h0 : 0 ≤ left) (h1 : left ≤ 1048576) : FunOK Tryz.prog 86 [x.v, .int .i64 left] false (.int .i64 (szR x.sz left)) := by
  refine fun_ok (mkE_ok zmix (cl := []) (gl := []) [] trivial trivial) Tryz.func86 (by kernel_rfl) ?_
  refine FunW_run _ _ rfl rfl ?_
  simp only [Par.lim, lim] at h
  have l0 := h
  have w0 : IntKind.i64.wrap (left - (x.name.size : Int)) = left - (x.name.size : Nat) := wrap64 (by omega) (by omega)
  by_cases a0 : left < (x.name.size : Nat)
  · have b0 : left - ((x.name.size : Nat) : Int) < 0 := by omega
    have r : szR x.sz left = -1 := szR_lt (by simp only [Par.sz]; omega)
    simp [w0, b0, r]
  have b0 : ¬ left - ((x.name.size : Nat) : Int) < 0 := by omega
  have r : szR x.sz left = left - ((x.name.size : Nat) : Int) := (szR_ge (by simp only [Par.sz]; omega)).trans (by simp only [Par.sz] <;> omega)
  simp [w0, b0, r]
noncomputable def c86 := ctr (fun a : Par × Int => a.1.lim ∧ 0 ≤ a.2 ∧ a.2 ≤ 1048576) (fun a => [a.1.v, .int .i64 a.2]) (fun a => (false, .int .i64 (szR a.1.sz a.2)))
theorem c86_eq (x : Par) (left : Int) (h : x.lim) (h0 : 0 ≤ left) (h1 : left ≤ 1048576) : c86 [x.v, .int .i64 left] = some (false, .int .i64 (szR x.sz left)) := ctr_eq (inj1 Par.v_inj _) (x, left) ⟨h, h0, h1⟩ rfl
theorem c86_ok : COK Tryz.prog (86, c86) := ctr_ok fun a h => f86_ok a.1 a.2 h.1 h.2.1 h.2.2

theorem f69_ok (xs : List Par) (left : Int) (hlim : limL Par.lim xs) (hl0 : 0 ≤ left) (hl1 : left ≤ 1048576) : FunOK Tryz.prog 69 [.lst (xs.map Par.v), .int .i64 left] false (.int .i64 (szR (szL Par.sz xs) left)) := by
  refine fun_ok (mkE_ok zmix (cl := [(86, c86)]) (gl := []) [] c86_ok trivial) Tryz.func69 (by kernel_rfl) ?_
  refine FunW_run _ _ rfl rfl ?_
  have hlen := hlim.1
  simp only [lim] at hlen
  have hl := szL_len Par.sz xs
  have w0 : IntKind.i64.wrap (left - (xs.length : Int)) = left - xs.length := wrap64 (by omega) (by omega)
  by_cases a0 : left < xs.length
  · have b0 : left - (xs.length : Int) < 0 := by omega
    have r : szR (szL Par.sz xs) left = -1 := szR_lt (by omega)
    simp [w0, b0, r]
  have b0 : ¬ left - (xs.length : Int) < 0 := by omega
  simp [w0, b0]
  refine lp_list xs (fun i t => t.e 0 = .lst (xs.map Par.v) ∧ t.e 5 = .int .i64 i ∧ t.e 1 = .int .i64 (left - xs.length - pre Par.sz xs i) ∧ 0 ≤ left - xs.length - pre Par.sz xs i) ?_ ?_ ?_
  · simp [pre_zero]
    omega
  · rintro c' L hL i t x hx hi ih ⟨h0, h5, h1', hge⟩
    have hw : IntKind.i64.wrap ((i : Int) + 1) = ((i + 1 : Nat) : Int) := wrap64 (by omega) (by omega)
    have hp := pre_succ Par.sz hx
    have hp2 := pre_le Par.sz xs (i + 1)
    have w := c86_eq x (left - xs.length - pre Par.sz xs i) (hlim.2 x (List.mem_of_getElem? hx)) (by omega) (by omega)
    simp only [Par.v] at w
    by_cases a : left - xs.length - pre Par.sz xs i < (Par.sz x : Nat)
    · rw [szR_lt a] at w
      have r : szR (szL Par.sz xs) left = -1 := szR_lt (by simp only [szL]; omega)
      simp [-getElem?_pos, List.getElem?_cons_zero, List.getElem?_cons_succ, h0, h1', h5, hL, hx, hi, w, r]
    rw [szR_ge (Int.not_lt.1 a)] at w
    have b : ¬ left - xs.length - pre Par.sz xs i - (Par.sz x : Nat) < 0 := by omega
    simp [-getElem?_pos, List.getElem?_cons_zero, List.getElem?_cons_succ, h0, h1', h5, hL, hx, hi, w, b]
    refine ih _ ?_
    simp [-getElem?_pos, List.getElem?_cons_zero, List.getElem?_cons_succ, h0, h1', h5, hL, hx, hi, hw, hp]
    omega
  · rintro c' t ⟨h0, h5, h1', hge⟩
    rw [pre_all] at h1' hge
    have r : szR (szL Par.sz xs) left = left - xs.length - ((xs.map Par.sz).sum : Nat) := by rw [szR_ge (by simp only [szL]; omega)]; simp only [szL]; omega
    simp [h0, h5, h1', r]
noncomputable def c69 := ctr (fun a : List Par × Int => limL Par.lim a.1 ∧ 0 ≤ a.2 ∧ a.2 ≤ 1048576) (fun a => [.lst (a.1.map Par.v), .int .i64 a.2]) (fun a => (false, .int .i64 (szR (szL Par.sz a.1) a.2)))
theorem c69_eq (xs : List Par) (left : Int) (h : limL Par.lim xs) (h0 : 0 ≤ left) (h1 : left ≤ 1048576) : c69 [.lst (xs.map Par.v), .int .i64 left] = some (false, .int .i64 (szR (szL Par.sz xs) left)) := ctr_eq (injl1 Par.v_inj _) (xs, left) ⟨h, h0, h1⟩ rfl
theorem c69_ok : COK Tryz.prog (69, c69) := ctr_ok fun a h => f69_ok a.1 a.2 h.1 h.2.1 h.2.2

theorem f45_ok (x : Use) (left : Int) (h : x.lim) (h0 : 0 ≤ left) (h1 : left ≤ 1048576) : FunOK Tryz.prog 45 [x.v, .int .i64 left] false (.int .i64 (szR x.sz left)) := by
  refine fun_ok (mkE_ok zmix (cl := []) (gl := []) [] trivial trivial) Tryz.func45 (by kernel_rfl) ?_
  refine FunW_run _ _ rfl rfl ?_
  simp only [Use.lim, lim] at h
  obtain ⟨l0, l1⟩ := h
  have w0 : IntKind.i64.wrap (left - (x.mod.size : Int)) = left - (x.mod.size : Nat) := wrap64 (by omega) (by omega)
  by_cases a0 : left < (x.mod.size : Nat)
  · have b0 : left - ((x.mod.size : Nat) : Int) < 0 := by omega
    have r : szR x.sz left = -1 := szR_lt (by simp only [Use.sz]; omega)
    simp [w0, b0, r]
  have b0 : ¬ left - ((x.mod.size : Nat) : Int) < 0 := by omega
  have w1 : IntKind.i64.wrap (left - ((x.mod.size : Nat) : Int) - (x.name.size : Int)) = left - ((x.mod.size : Nat) : Int) - (x.name.size : Nat) := wrap64 (by omega) (by omega)
  by_cases a1 : left - ((x.mod.size : Nat) : Int) < (x.name.size : Nat)
  · have b1 : left - ((x.mod.size : Nat) : Int) - ((x.name.size : Nat) : Int) < 0 := by omega
    have r : szR x.sz left = -1 := szR_lt (by simp only [Use.sz]; omega)
    simp [w0, b0, w1, b1, r]
  have b1 : ¬ left - ((x.mod.size : Nat) : Int) - ((x.name.size : Nat) : Int) < 0 := by omega
  have r : szR x.sz left = left - ((x.mod.size : Nat) : Int) - ((x.name.size : Nat) : Int) := (szR_ge (by simp only [Use.sz]; omega)).trans (by simp only [Use.sz] <;> omega)
  simp [w0, b0, w1, b1, r]
noncomputable def c45 := ctr (fun a : Use × Int => a.1.lim ∧ 0 ≤ a.2 ∧ a.2 ≤ 1048576) (fun a => [a.1.v, .int .i64 a.2]) (fun a => (false, .int .i64 (szR a.1.sz a.2)))
theorem c45_eq (x : Use) (left : Int) (h : x.lim) (h0 : 0 ≤ left) (h1 : left ≤ 1048576) : c45 [x.v, .int .i64 left] = some (false, .int .i64 (szR x.sz left)) := ctr_eq (inj1 Use.v_inj _) (x, left) ⟨h, h0, h1⟩ rfl
theorem c45_ok : COK Tryz.prog (45, c45) := ctr_ok fun a h => f45_ok a.1 a.2 h.1 h.2.1 h.2.2

theorem f25_ok (xs : List Use) (left : Int) (hlim : limL Use.lim xs) (hl0 : 0 ≤ left) (hl1 : left ≤ 1048576) : FunOK Tryz.prog 25 [.lst (xs.map Use.v), .int .i64 left] false (.int .i64 (szR (szL Use.sz xs) left)) := by
  refine fun_ok (mkE_ok zmix (cl := [(45, c45)]) (gl := []) [] c45_ok trivial) Tryz.func25 (by kernel_rfl) ?_
  refine FunW_run _ _ rfl rfl ?_
  have hlen := hlim.1
  simp only [lim] at hlen
  have hl := szL_len Use.sz xs
  have w0 : IntKind.i64.wrap (left - (xs.length : Int)) = left - xs.length := wrap64 (by omega) (by omega)
  by_cases a0 : left < xs.length
  · have b0 : left - (xs.length : Int) < 0 := by omega
    have r : szR (szL Use.sz xs) left = -1 := szR_lt (by omega)
    simp [w0, b0, r]
  have b0 : ¬ left - (xs.length : Int) < 0 := by omega
  simp [w0, b0]
  refine lp_list xs (fun i t => t.e 0 = .lst (xs.map Use.v) ∧ t.e 5 = .int .i64 i ∧ t.e 1 = .int .i64 (left - xs.length - pre Use.sz xs i) ∧ 0 ≤ left - xs.length - pre Use.sz xs i) ?_ ?_ ?_
  · simp [pre_zero]
    omega
  · rintro c' L hL i t x hx hi ih ⟨h0, h5, h1', hge⟩
    have hw : IntKind.i64.wrap ((i : Int) + 1) = ((i + 1 : Nat) : Int) := wrap64 (by omega) (by omega)
    have hp := pre_succ Use.sz hx
    have hp2 := pre_le Use.sz xs (i + 1)
    have w := c45_eq x (left - xs.length - pre Use.sz xs i) (hlim.2 x (List.mem_of_getElem? hx)) (by omega) (by omega)
    simp only [Use.v] at w
    by_cases a : left - xs.length - pre Use.sz xs i < (Use.sz x : Nat)
    · rw [szR_lt a] at w
      have r : szR (szL Use.sz xs) left = -1 := szR_lt (by simp only [szL]; omega)
      simp [-getElem?_pos, List.getElem?_cons_zero, List.getElem?_cons_succ, h0, h1', h5, hL, hx, hi, w, r]
    rw [szR_ge (Int.not_lt.1 a)] at w
    have b : ¬ left - xs.length - pre Use.sz xs i - (Use.sz x : Nat) < 0 := by omega
    simp [-getElem?_pos, List.getElem?_cons_zero, List.getElem?_cons_succ, h0, h1', h5, hL, hx, hi, w, b]
    refine ih _ ?_
    simp [-getElem?_pos, List.getElem?_cons_zero, List.getElem?_cons_succ, h0, h1', h5, hL, hx, hi, hw, hp]
    omega
  · rintro c' t ⟨h0, h5, h1', hge⟩
    rw [pre_all] at h1' hge
    have r : szR (szL Use.sz xs) left = left - xs.length - ((xs.map Use.sz).sum : Nat) := by rw [szR_ge (by simp only [szL]; omega)]; simp only [szL]; omega
    simp [h0, h5, h1', r]
noncomputable def c25 := ctr (fun a : List Use × Int => limL Use.lim a.1 ∧ 0 ≤ a.2 ∧ a.2 ≤ 1048576) (fun a => [.lst (a.1.map Use.v), .int .i64 a.2]) (fun a => (false, .int .i64 (szR (szL Use.sz a.1) a.2)))
theorem c25_eq (xs : List Use) (left : Int) (h : limL Use.lim xs) (h0 : 0 ≤ left) (h1 : left ≤ 1048576) : c25 [.lst (xs.map Use.v), .int .i64 left] = some (false, .int .i64 (szR (szL Use.sz xs) left)) := ctr_eq (injl1 Use.v_inj _) (xs, left) ⟨h, h0, h1⟩ rfl
theorem c25_ok : COK Tryz.prog (25, c25) := ctr_ok fun a h => f25_ok a.1 a.2 h.1 h.2.1 h.2.2

theorem f43_ok (x : Ty) (left : Int) (h : x.lim) (h0 : 0 ≤ left) (h1 : left ≤ 1048576) : FunOK Tryz.prog 43 [x.v, .int .i64 left] false (.int .i64 (szR x.sz left)) := by
  refine fun_ok (mkE_ok zmix (cl := [(68, c68)]) (gl := []) [] c68_ok trivial) Tryz.func43 (by kernel_rfl) ?_
  refine FunW_run _ _ rfl rfl ?_
  simp only [Ty.lim, lim] at h
  obtain ⟨l0, l1, l2⟩ := h
  have w0 := c68_eq x.fields (left) l0 (by omega) (by omega)
  by_cases a0 : left < (szL Fld.sz x.fields : Nat)
  · rw [szR_lt a0] at w0
    have r : szR x.sz left = -1 := szR_lt (by simp only [Ty.sz]; omega)
    simp [w0, r]
  rw [szR_ge (Int.not_lt.1 a0)] at w0
  have b0 : ¬ left - ((szL Fld.sz x.fields : Nat) : Int) < 0 := by omega
  have w1 : IntKind.i64.wrap (left - ((szL Fld.sz x.fields : Nat) : Int) - (x.owner.size : Int)) = left - ((szL Fld.sz x.fields : Nat) : Int) - (x.owner.size : Nat) := wrap64 (by omega) (by omega)
  by_cases a1 : left - ((szL Fld.sz x.fields : Nat) : Int) < (x.owner.size : Nat)
  · have b1 : left - ((szL Fld.sz x.fields : Nat) : Int) - ((x.owner.size : Nat) : Int) < 0 := by omega
    have r : szR x.sz left = -1 := szR_lt (by simp only [Ty.sz]; omega)
    simp [w0, b0, w1, b1, r]
  have b1 : ¬ left - ((szL Fld.sz x.fields : Nat) : Int) - ((x.owner.size : Nat) : Int) < 0 := by omega
  have w2 : IntKind.i64.wrap (left - ((szL Fld.sz x.fields : Nat) : Int) - ((x.owner.size : Nat) : Int) - (x.name.size : Int)) = left - ((szL Fld.sz x.fields : Nat) : Int) - ((x.owner.size : Nat) : Int) - (x.name.size : Nat) := wrap64 (by omega) (by omega)
  by_cases a2 : left - ((szL Fld.sz x.fields : Nat) : Int) - ((x.owner.size : Nat) : Int) < (x.name.size : Nat)
  · have b2 : left - ((szL Fld.sz x.fields : Nat) : Int) - ((x.owner.size : Nat) : Int) - ((x.name.size : Nat) : Int) < 0 := by omega
    have r : szR x.sz left = -1 := szR_lt (by simp only [Ty.sz]; omega)
    simp [w0, b0, w1, b1, w2, b2, r]
  have b2 : ¬ left - ((szL Fld.sz x.fields : Nat) : Int) - ((x.owner.size : Nat) : Int) - ((x.name.size : Nat) : Int) < 0 := by omega
  have r : szR x.sz left = left - ((szL Fld.sz x.fields : Nat) : Int) - ((x.owner.size : Nat) : Int) - ((x.name.size : Nat) : Int) := (szR_ge (by simp only [Ty.sz]; omega)).trans (by simp only [Ty.sz] <;> omega)
  simp [w0, b0, w1, b1, w2, b2, r]
noncomputable def c43 := ctr (fun a : Ty × Int => a.1.lim ∧ 0 ≤ a.2 ∧ a.2 ≤ 1048576) (fun a => [a.1.v, .int .i64 a.2]) (fun a => (false, .int .i64 (szR a.1.sz a.2)))
theorem c43_eq (x : Ty) (left : Int) (h : x.lim) (h0 : 0 ≤ left) (h1 : left ≤ 1048576) : c43 [x.v, .int .i64 left] = some (false, .int .i64 (szR x.sz left)) := ctr_eq (inj1 Ty.v_inj _) (x, left) ⟨h, h0, h1⟩ rfl
theorem c43_ok : COK Tryz.prog (43, c43) := ctr_ok fun a h => f43_ok a.1 a.2 h.1 h.2.1 h.2.2

theorem f23_ok (xs : List Ty) (left : Int) (hlim : limL Ty.lim xs) (hl0 : 0 ≤ left) (hl1 : left ≤ 1048576) : FunOK Tryz.prog 23 [.lst (xs.map Ty.v), .int .i64 left] false (.int .i64 (szR (szL Ty.sz xs) left)) := by
  refine fun_ok (mkE_ok zmix (cl := [(43, c43)]) (gl := []) [] c43_ok trivial) Tryz.func23 (by kernel_rfl) ?_
  refine FunW_run _ _ rfl rfl ?_
  have hlen := hlim.1
  simp only [lim] at hlen
  have hl := szL_len Ty.sz xs
  have w0 : IntKind.i64.wrap (left - (xs.length : Int)) = left - xs.length := wrap64 (by omega) (by omega)
  by_cases a0 : left < xs.length
  · have b0 : left - (xs.length : Int) < 0 := by omega
    have r : szR (szL Ty.sz xs) left = -1 := szR_lt (by omega)
    simp [w0, b0, r]
  have b0 : ¬ left - (xs.length : Int) < 0 := by omega
  simp [w0, b0]
  refine lp_list xs (fun i t => t.e 0 = .lst (xs.map Ty.v) ∧ t.e 5 = .int .i64 i ∧ t.e 1 = .int .i64 (left - xs.length - pre Ty.sz xs i) ∧ 0 ≤ left - xs.length - pre Ty.sz xs i) ?_ ?_ ?_
  · simp [pre_zero]
    omega
  · rintro c' L hL i t x hx hi ih ⟨h0, h5, h1', hge⟩
    have hw : IntKind.i64.wrap ((i : Int) + 1) = ((i + 1 : Nat) : Int) := wrap64 (by omega) (by omega)
    have hp := pre_succ Ty.sz hx
    have hp2 := pre_le Ty.sz xs (i + 1)
    have w := c43_eq x (left - xs.length - pre Ty.sz xs i) (hlim.2 x (List.mem_of_getElem? hx)) (by omega) (by omega)
    simp only [Ty.v] at w
    by_cases a : left - xs.length - pre Ty.sz xs i < (Ty.sz x : Nat)
    · rw [szR_lt a] at w
      have r : szR (szL Ty.sz xs) left = -1 := szR_lt (by simp only [szL]; omega)
      simp [-getElem?_pos, List.getElem?_cons_zero, List.getElem?_cons_succ, h0, h1', h5, hL, hx, hi, w, r]
    rw [szR_ge (Int.not_lt.1 a)] at w
    have b : ¬ left - xs.length - pre Ty.sz xs i - (Ty.sz x : Nat) < 0 := by omega
    simp [-getElem?_pos, List.getElem?_cons_zero, List.getElem?_cons_succ, h0, h1', h5, hL, hx, hi, w, b]
    refine ih _ ?_
    simp [-getElem?_pos, List.getElem?_cons_zero, List.getElem?_cons_succ, h0, h1', h5, hL, hx, hi, hw, hp]
    omega
  · rintro c' t ⟨h0, h5, h1', hge⟩
    rw [pre_all] at h1' hge
    have r : szR (szL Ty.sz xs) left = left - xs.length - ((xs.map Ty.sz).sum : Nat) := by rw [szR_ge (by simp only [szL]; omega)]; simp only [szL]; omega
    simp [h0, h5, h1', r]
noncomputable def c23 := ctr (fun a : List Ty × Int => limL Ty.lim a.1 ∧ 0 ≤ a.2 ∧ a.2 ≤ 1048576) (fun a => [.lst (a.1.map Ty.v), .int .i64 a.2]) (fun a => (false, .int .i64 (szR (szL Ty.sz a.1) a.2)))
theorem c23_eq (xs : List Ty) (left : Int) (h : limL Ty.lim xs) (h0 : 0 ≤ left) (h1 : left ≤ 1048576) : c23 [.lst (xs.map Ty.v), .int .i64 left] = some (false, .int .i64 (szR (szL Ty.sz xs) left)) := ctr_eq (injl1 Ty.v_inj _) (xs, left) ⟨h, h0, h1⟩ rfl
theorem c23_ok : COK Tryz.prog (23, c23) := ctr_ok fun a h => f23_ok a.1 a.2 h.1 h.2.1 h.2.2

theorem f44_ok (x : Obj) (left : Int) (h : x.lim) (h0 : 0 ≤ left) (h1 : left ≤ 1048576) : FunOK Tryz.prog 44 [x.v, .int .i64 left] false (.int .i64 (szR x.sz left)) := by
  refine fun_ok (mkE_ok zmix (cl := [(69, c69)]) (gl := []) [] c69_ok trivial) Tryz.func44 (by kernel_rfl) ?_
  refine FunW_run _ _ rfl rfl ?_
  simp only [Obj.lim, lim] at h
  obtain ⟨l0, l1⟩ := h
  have w0 : IntKind.i64.wrap (left - (x.name.size : Int)) = left - (x.name.size : Nat) := wrap64 (by omega) (by omega)
  by_cases a0 : left < (x.name.size : Nat)
  · have b0 : left - ((x.name.size : Nat) : Int) < 0 := by omega
    have r : szR x.sz left = -1 := szR_lt (by simp only [Obj.sz]; omega)
    simp [w0, b0, r]
  have b0 : ¬ left - ((x.name.size : Nat) : Int) < 0 := by omega
  have w1 := c69_eq x.params (left - ((x.name.size : Nat) : Int)) l1 (by omega) (by omega)
  by_cases a1 : left - ((x.name.size : Nat) : Int) < (szL Par.sz x.params : Nat)
  · rw [szR_lt a1] at w1
    have r : szR x.sz left = -1 := szR_lt (by simp only [Obj.sz]; omega)
    simp [w0, b0, w1, r]
  rw [szR_ge (Int.not_lt.1 a1)] at w1
  have b1 : ¬ left - ((x.name.size : Nat) : Int) - ((szL Par.sz x.params : Nat) : Int) < 0 := by omega
  have r : szR x.sz left = left - ((x.name.size : Nat) : Int) - ((szL Par.sz x.params : Nat) : Int) := (szR_ge (by simp only [Obj.sz]; omega)).trans (by simp only [Obj.sz] <;> omega)
  simp [w0, b0, w1, b1, r]
noncomputable def c44 := ctr (fun a : Obj × Int => a.1.lim ∧ 0 ≤ a.2 ∧ a.2 ≤ 1048576) (fun a => [a.1.v, .int .i64 a.2]) (fun a => (false, .int .i64 (szR a.1.sz a.2)))
theorem c44_eq (x : Obj) (left : Int) (h : x.lim) (h0 : 0 ≤ left) (h1 : left ≤ 1048576) : c44 [x.v, .int .i64 left] = some (false, .int .i64 (szR x.sz left)) := ctr_eq (inj1 Obj.v_inj _) (x, left) ⟨h, h0, h1⟩ rfl
theorem c44_ok : COK Tryz.prog (44, c44) := ctr_ok fun a h => f44_ok a.1 a.2 h.1 h.2.1 h.2.2

theorem f24_ok (xs : List Obj) (left : Int) (hlim : limL Obj.lim xs) (hl0 : 0 ≤ left) (hl1 : left ≤ 1048576) : FunOK Tryz.prog 24 [.lst (xs.map Obj.v), .int .i64 left] false (.int .i64 (szR (szL Obj.sz xs) left)) := by
  refine fun_ok (mkE_ok zmix (cl := [(44, c44)]) (gl := []) [] c44_ok trivial) Tryz.func24 (by kernel_rfl) ?_
  refine FunW_run _ _ rfl rfl ?_
  have hlen := hlim.1
  simp only [lim] at hlen
  have hl := szL_len Obj.sz xs
  have w0 : IntKind.i64.wrap (left - (xs.length : Int)) = left - xs.length := wrap64 (by omega) (by omega)
  by_cases a0 : left < xs.length
  · have b0 : left - (xs.length : Int) < 0 := by omega
    have r : szR (szL Obj.sz xs) left = -1 := szR_lt (by omega)
    simp [w0, b0, r]
  have b0 : ¬ left - (xs.length : Int) < 0 := by omega
  simp [w0, b0]
  refine lp_list xs (fun i t => t.e 0 = .lst (xs.map Obj.v) ∧ t.e 5 = .int .i64 i ∧ t.e 1 = .int .i64 (left - xs.length - pre Obj.sz xs i) ∧ 0 ≤ left - xs.length - pre Obj.sz xs i) ?_ ?_ ?_
  · simp [pre_zero]
    omega
  · rintro c' L hL i t x hx hi ih ⟨h0, h5, h1', hge⟩
    have hw : IntKind.i64.wrap ((i : Int) + 1) = ((i + 1 : Nat) : Int) := wrap64 (by omega) (by omega)
    have hp := pre_succ Obj.sz hx
    have hp2 := pre_le Obj.sz xs (i + 1)
    have w := c44_eq x (left - xs.length - pre Obj.sz xs i) (hlim.2 x (List.mem_of_getElem? hx)) (by omega) (by omega)
    simp only [Obj.v] at w
    by_cases a : left - xs.length - pre Obj.sz xs i < (Obj.sz x : Nat)
    · rw [szR_lt a] at w
      have r : szR (szL Obj.sz xs) left = -1 := szR_lt (by simp only [szL]; omega)
      simp [-getElem?_pos, List.getElem?_cons_zero, List.getElem?_cons_succ, h0, h1', h5, hL, hx, hi, w, r]
    rw [szR_ge (Int.not_lt.1 a)] at w
    have b : ¬ left - xs.length - pre Obj.sz xs i - (Obj.sz x : Nat) < 0 := by omega
    simp [-getElem?_pos, List.getElem?_cons_zero, List.getElem?_cons_succ, h0, h1', h5, hL, hx, hi, w, b]
    refine ih _ ?_
    simp [-getElem?_pos, List.getElem?_cons_zero, List.getElem?_cons_succ, h0, h1', h5, hL, hx, hi, hw, hp]
    omega
  · rintro c' t ⟨h0, h5, h1', hge⟩
    rw [pre_all] at h1' hge
    have r : szR (szL Obj.sz xs) left = left - xs.length - ((xs.map Obj.sz).sum : Nat) := by rw [szR_ge (by simp only [szL]; omega)]; simp only [szL]; omega
    simp [h0, h5, h1', r]
noncomputable def c24 := ctr (fun a : List Obj × Int => limL Obj.lim a.1 ∧ 0 ≤ a.2 ∧ a.2 ≤ 1048576) (fun a => [.lst (a.1.map Obj.v), .int .i64 a.2]) (fun a => (false, .int .i64 (szR (szL Obj.sz a.1) a.2)))
theorem c24_eq (xs : List Obj) (left : Int) (h : limL Obj.lim xs) (h0 : 0 ≤ left) (h1 : left ≤ 1048576) : c24 [.lst (xs.map Obj.v), .int .i64 left] = some (false, .int .i64 (szR (szL Obj.sz xs) left)) := ctr_eq (injl1 Obj.v_inj _) (xs, left) ⟨h, h0, h1⟩ rfl
theorem c24_ok : COK Tryz.prog (24, c24) := ctr_ok fun a h => f24_ok a.1 a.2 h.1 h.2.1 h.2.2

theorem f6_ok (x : Scp) (left : Int) (h : x.lim) (h0 : 0 ≤ left) (h1 : left ≤ 1048576) : FunOK Tryz.prog 6 [x.v, .int .i64 left] false (.int .i64 (szR x.sz left)) := by
  refine fun_ok (mkE_ok zmix (cl := [(22, c22), (23, c23), (24, c24), (25, c25)]) (gl := []) [] ⟨c22_ok, c23_ok, c24_ok, c25_ok⟩ trivial) Tryz.func6 (by kernel_rfl) ?_
  refine FunW_run _ _ rfl rfl ?_
  simp only [Scp.lim, lim] at h
  obtain ⟨l0, l1, l2, l3, l4⟩ := h
  have w0 : IntKind.i64.wrap (left - (x.name.size : Int)) = left - (x.name.size : Nat) := wrap64 (by omega) (by omega)
  by_cases a0 : left < (x.name.size : Nat)
  · have b0 : left - ((x.name.size : Nat) : Int) < 0 := by omega
    have r : szR x.sz left = -1 := szR_lt (by simp only [Scp.sz]; omega)
    simp [w0, b0, r]
  have b0 : ¬ left - ((x.name.size : Nat) : Int) < 0 := by omega
  have w1 := c22_eq x.imports (left - ((x.name.size : Nat) : Int)) l1 (by omega) (by omega)
  by_cases a1 : left - ((x.name.size : Nat) : Int) < (szL ByteArray.size x.imports : Nat)
  · rw [szR_lt a1] at w1
    have r : szR x.sz left = -1 := szR_lt (by simp only [Scp.sz]; omega)
    simp [w0, b0, w1, r]
  rw [szR_ge (Int.not_lt.1 a1)] at w1
  have b1 : ¬ left - ((x.name.size : Nat) : Int) - ((szL ByteArray.size x.imports : Nat) : Int) < 0 := by omega
  have w2 := c23_eq x.types (left - ((x.name.size : Nat) : Int) - ((szL ByteArray.size x.imports : Nat) : Int)) l2 (by omega) (by omega)
  by_cases a2 : left - ((x.name.size : Nat) : Int) - ((szL ByteArray.size x.imports : Nat) : Int) < (szL Ty.sz x.types : Nat)
  · rw [szR_lt a2] at w2
    have r : szR x.sz left = -1 := szR_lt (by simp only [Scp.sz]; omega)
    simp [w0, b0, w1, b1, w2, r]
  rw [szR_ge (Int.not_lt.1 a2)] at w2
  have b2 : ¬ left - ((x.name.size : Nat) : Int) - ((szL ByteArray.size x.imports : Nat) : Int) - ((szL Ty.sz x.types : Nat) : Int) < 0 := by omega
  have w3 := c24_eq x.objects (left - ((x.name.size : Nat) : Int) - ((szL ByteArray.size x.imports : Nat) : Int) - ((szL Ty.sz x.types : Nat) : Int)) l3 (by omega) (by omega)
  by_cases a3 : left - ((x.name.size : Nat) : Int) - ((szL ByteArray.size x.imports : Nat) : Int) - ((szL Ty.sz x.types : Nat) : Int) < (szL Obj.sz x.objects : Nat)
  · rw [szR_lt a3] at w3
    have r : szR x.sz left = -1 := szR_lt (by simp only [Scp.sz]; omega)
    simp [w0, b0, w1, b1, w2, b2, w3, r]
  rw [szR_ge (Int.not_lt.1 a3)] at w3
  have b3 : ¬ left - ((x.name.size : Nat) : Int) - ((szL ByteArray.size x.imports : Nat) : Int) - ((szL Ty.sz x.types : Nat) : Int) - ((szL Obj.sz x.objects : Nat) : Int) < 0 := by omega
  have w4 := c25_eq x.uses (left - ((x.name.size : Nat) : Int) - ((szL ByteArray.size x.imports : Nat) : Int) - ((szL Ty.sz x.types : Nat) : Int) - ((szL Obj.sz x.objects : Nat) : Int)) l4 (by omega) (by omega)
  by_cases a4 : left - ((x.name.size : Nat) : Int) - ((szL ByteArray.size x.imports : Nat) : Int) - ((szL Ty.sz x.types : Nat) : Int) - ((szL Obj.sz x.objects : Nat) : Int) < (szL Use.sz x.uses : Nat)
  · rw [szR_lt a4] at w4
    have r : szR x.sz left = -1 := szR_lt (by simp only [Scp.sz]; omega)
    simp [w0, b0, w1, b1, w2, b2, w3, b3, w4, r]
  rw [szR_ge (Int.not_lt.1 a4)] at w4
  have b4 : ¬ left - ((x.name.size : Nat) : Int) - ((szL ByteArray.size x.imports : Nat) : Int) - ((szL Ty.sz x.types : Nat) : Int) - ((szL Obj.sz x.objects : Nat) : Int) - ((szL Use.sz x.uses : Nat) : Int) < 0 := by omega
  have r : szR x.sz left = left - ((x.name.size : Nat) : Int) - ((szL ByteArray.size x.imports : Nat) : Int) - ((szL Ty.sz x.types : Nat) : Int) - ((szL Obj.sz x.objects : Nat) : Int) - ((szL Use.sz x.uses : Nat) : Int) := (szR_ge (by simp only [Scp.sz]; omega)).trans (by simp only [Scp.sz] <;> omega)
  simp [w0, b0, w1, b1, w2, b2, w3, b3, w4, b4, r]
noncomputable def c6 := ctr (fun a : Scp × Int => a.1.lim ∧ 0 ≤ a.2 ∧ a.2 ≤ 1048576) (fun a => [a.1.v, .int .i64 a.2]) (fun a => (false, .int .i64 (szR a.1.sz a.2)))
theorem c6_eq (x : Scp) (left : Int) (h : x.lim) (h0 : 0 ≤ left) (h1 : left ≤ 1048576) : c6 [x.v, .int .i64 left] = some (false, .int .i64 (szR x.sz left)) := ctr_eq (inj1 Scp.v_inj _) (x, left) ⟨h, h0, h1⟩ rfl
theorem c6_ok : COK Tryz.prog (6, c6) := ctr_ok fun a h => f6_ok a.1 a.2 h.1 h.2.1 h.2.2

end Go.TM.Tryz
end
section
set_option maxHeartbeats 2000000
set_option linter.unusedSimpArgs false
set_option linter.unusedVariables false
namespace Go.TM.Tryz
open Go Go.TM Go.Proofs
theorem f10_ok (xs : List ByteArray) (hlim : limL strLim xs) : FunOK Tryz.prog 10 [.lst (xs.map V.str), .lst (xs.map V.str)] false (.bool true) := by
  refine fun_ok (mkE_ok zmix (cl := []) (gl := []) [] trivial trivial) Tryz.func10 (by kernel_rfl) ?_
  refine FunW_run _ _ rfl rfl ?_
  have hlen := hlim.1
  simp only [lim] at hlen
  simp
  refine lp_list xs (fun i t => t.e 0 = .lst (xs.map V.str) ∧ t.e 1 = .lst (xs.map V.str) ∧ t.e 5 = .int .i64 i) ?_ ?_ ?_
  · simp
  · rintro c' L hL i t x hx hi ih ⟨g0, g1, g5⟩
    have hw : IntKind.i64.wrap ((i : Int) + 1) = ((i + 1 : Nat) : Int) := wrap64 (by omega) (by omega)
    simp [-getElem?_pos, List.getElem?_cons_zero, List.getElem?_cons_succ, g0, g1, g5, hL, hx, hi]
    refine ih _ ?_
    simp [-getElem?_pos, List.getElem?_cons_zero, List.getElem?_cons_succ, g0, g1, g5, hL, hx, hi, hw]
  · rintro c' t ⟨g0, g1, g5⟩
    simp [g0, g1, g5]
noncomputable def c10 := ctr (fun xs : List ByteArray => limL strLim xs) (fun xs => [.lst (xs.map V.str), .lst (xs.map V.str)]) (fun _ => (false, .bool true))
theorem c10_eq (xs : List ByteArray) (h : limL strLim xs) : c10 [.lst (xs.map V.str), .lst (xs.map V.str)] = some (false, .bool true) := ctr_eq (fun _ _ _ => rfl) xs h rfl
theorem c10_ok : COK Tryz.prog (10, c10) := ctr_ok fun xs h => f10_ok xs h

theorem f106_ok (x : Fld) (h : x.lim) : FunOK Tryz.prog 106 [x.v, x.v] false (.bool true) := by
  refine fun_ok (mkE_ok zmix (cl := []) (gl := []) [] trivial trivial) Tryz.func106 (by kernel_rfl) ?_
  refine FunW_run _ _ rfl rfl ?_
  simp []
noncomputable def c106 := ctr (fun x : Fld => x.lim) (fun x => [x.v, x.v]) (fun _ => (false, .bool true))
theorem c106_eq (x : Fld) (h : x.lim) : c106 [x.v, x.v] = some (false, .bool true) := ctr_eq (fun _ _ _ => rfl) x h rfl
theorem c106_ok : COK Tryz.prog (106, c106) := ctr_ok fun x h => f106_ok x h

theorem f83_ok (xs : List Fld) (hlim : limL Fld.lim xs) : FunOK Tryz.prog 83 [.lst (xs.map Fld.v), .lst (xs.map Fld.v)] false (.bool true) := by
  refine fun_ok (mkE_ok zmix (cl := [(106, c106)]) (gl := []) [] c106_ok trivial) Tryz.func83 (by kernel_rfl) ?_
  refine FunW_run _ _ rfl rfl ?_
  have hlen := hlim.1
  simp only [lim] at hlen
  simp
  refine lp_list xs (fun i t => t.e 0 = .lst (xs.map Fld.v) ∧ t.e 1 = .lst (xs.map Fld.v) ∧ t.e 5 = .int .i64 i) ?_ ?_ ?_
  · simp
  · rintro c' L hL i t x hx hi ih ⟨g0, g1, g5⟩
    have hw : IntKind.i64.wrap ((i : Int) + 1) = ((i + 1 : Nat) : Int) := wrap64 (by omega) (by omega)
    have e := c106_eq x (hlim.2 x (List.mem_of_getElem? hx))
    simp only [Fld.v] at e
    simp [-getElem?_pos, List.getElem?_cons_zero, List.getElem?_cons_succ, g0, g1, g5, hL, hx, hi, e]
    refine ih _ ?_
    simp [-getElem?_pos, List.getElem?_cons_zero, List.getElem?_cons_succ, g0, g1, g5, hL, hx, hi, hw]
  · rintro c' t ⟨g0, g1, g5⟩
    simp [g0, g1, g5]
noncomputable def c83 := ctr (fun xs : List Fld => limL Fld.lim xs) (fun xs => [.lst (xs.map Fld.v), .lst (xs.map Fld.v)]) (fun _ => (false, .bool true))
theorem c83_eq (xs : List Fld) (h : limL Fld.lim xs) : c83 [.lst (xs.map Fld.v), .lst (xs.map Fld.v)] = some (false, .bool true) := ctr_eq (fun _ _ _ => rfl) xs h rfl
theorem c83_ok : COK Tryz.prog (83, c83) := ctr_ok fun xs h => f83_ok xs h

theorem f107_ok (x : Par) (h : x.lim) : FunOK Tryz.prog 107 [x.v, x.v] false (.bool true) := by
  refine fun_ok (mkE_ok zmix (cl := []) (gl := []) [] trivial trivial) Tryz.func107 (by kernel_rfl) ?_
  refine FunW_run _ _ rfl rfl ?_
  simp []
noncomputable def c107 := ctr (fun x : Par => x.lim) (fun x => [x.v, x.v]) (fun _ => (false, .bool true))
theorem c107_eq (x : Par) (h : x.lim) : c107 [x.v, x.v] = some (false, .bool true) := ctr_eq (fun _ _ _ => rfl) x h rfl
theorem c107_ok : COK Tryz.prog (107, c107) := ctr_ok fun x h => f107_ok x h

theorem f84_ok (xs : List Par) (hlim : limL Par.lim xs) : FunOK Tryz.prog 84 [.lst (xs.map Par.v), .lst (xs.map Par.v)] false (.bool true) := by
  refine fun_ok (mkE_ok zmix (cl := [(107, c107)]) (gl := []) [] c107_ok trivial) Tryz.func84 (by kernel_rfl) ?_
  refine FunW_run _ _ rfl rfl ?_
  have hlen := hlim.1
  simp only [lim] at hlen
  simp
  refine lp_list xs (fun i t => t.e 0 = .lst (xs.map Par.v) ∧ t.e 1 = .lst (xs.map Par.v) ∧ t.e 5 = .int .i64 i) ?_ ?_ ?_
  · simp
  · rintro c' L hL i t x hx hi ih ⟨g0, g1, g5⟩
    have hw : IntKind.i64.wrap ((i : Int) + 1) = ((i + 1 : Nat) : Int) := wrap64 (by omega) (by omega)
    have e := c107_eq x (hlim.2 x (List.mem_of_getElem? hx))
    simp only [Par.v] at e
    simp [-getElem?_pos, List.getElem?_cons_zero, List.getElem?_cons_succ, g0, g1, g5, hL, hx, hi, e]
    refine ih _ ?_
    simp [-getElem?_pos, List.getElem?_cons_zero, List.getElem?_cons_succ, g0, g1, g5, hL, hx, hi, hw]
  · rintro c' t ⟨g0, g1, g5⟩
    simp [g0, g1, g5]
noncomputable def c84 := ctr (fun xs : List Par => limL Par.lim xs) (fun xs => [.lst (xs.map Par.v), .lst (xs.map Par.v)]) (fun _ => (false, .bool true))
theorem c84_eq (xs : List Par) (h : limL Par.lim xs) : c84 [.lst (xs.map Par.v), .lst (xs.map Par.v)] = some (false, .bool true) := ctr_eq (fun _ _ _ => rfl) xs h rfl
theorem c84_ok : COK Tryz.prog (84, c84) := ctr_ok fun xs h => f84_ok xs h

theorem f61_ok (x : Use) (h : x.lim) : FunOK Tryz.prog 61 [x.v, x.v] false (.bool true) := by
  refine fun_ok (mkE_ok zmix (cl := []) (gl := []) [] trivial trivial) Tryz.func61 (by kernel_rfl) ?_
  refine FunW_run _ _ rfl rfl ?_
  simp []
noncomputable def c61 := ctr (fun x : Use => x.lim) (fun x => [x.v, x.v]) (fun _ => (false, .bool true))
theorem c61_eq (x : Use) (h : x.lim) : c61 [x.v, x.v] = some (false, .bool true) := ctr_eq (fun _ _ _ => rfl) x h rfl
theorem c61_ok : COK Tryz.prog (61, c61) := ctr_ok fun x h => f61_ok x h

theorem f34_ok (xs : List Use) (hlim : limL Use.lim xs) : FunOK Tryz.prog 34 [.lst (xs.map Use.v), .lst (xs.map Use.v)] false (.bool true) := by
  refine fun_ok (mkE_ok zmix (cl := [(61, c61)]) (gl := []) [] c61_ok trivial) Tryz.func34 (by kernel_rfl) ?_
  refine FunW_run _ _ rfl rfl ?_
  have hlen := hlim.1
  simp only [lim] at hlen
  simp
  refine lp_list xs (fun i t => t.e 0 = .lst (xs.map Use.v) ∧ t.e 1 = .lst (xs.map Use.v) ∧ t.e 5 = .int .i64 i) ?_ ?_ ?_
  · simp
  · rintro c' L hL i t x hx hi ih ⟨g0, g1, g5⟩
    have hw : IntKind.i64.wrap ((i : Int) + 1) = ((i + 1 : Nat) : Int) := wrap64 (by omega) (by omega)
    have e := c61_eq x (hlim.2 x (List.mem_of_getElem? hx))
    simp only [Use.v] at e
    simp [-getElem?_pos, List.getElem?_cons_zero, List.getElem?_cons_succ, g0, g1, g5, hL, hx, hi, e]
    refine ih _ ?_
    simp [-getElem?_pos, List.getElem?_cons_zero, List.getElem?_cons_succ, g0, g1, g5, hL, hx, hi, hw]
  · rintro c' t ⟨g0, g1, g5⟩
    simp [g0, g1, g5]
noncomputable def c34 := ctr (fun xs : List Use => limL Use.lim xs) (fun xs => [.lst (xs.map Use.v), .lst (xs.map Use.v)]) (fun _ => (false, .bool true))
theorem c34_eq (xs : List Use) (h : limL Use.lim xs) : c34 [.lst (xs.map Use.v), .lst (xs.map Use.v)] = some (false, .bool true) := ctr_eq (fun _ _ _ => rfl) xs h rfl
theorem c34_ok : COK Tryz.prog (34, c34) := ctr_ok fun xs h => f34_ok xs h

theorem f59_ok (x : Ty) (h : x.lim) : FunOK Tryz.prog 59 [x.v, x.v] false (.bool true) := by
  refine fun_ok (mkE_ok zmix (cl := [(83, c83)]) (gl := []) [] c83_ok trivial) Tryz.func59 (by kernel_rfl) ?_
  refine FunW_run _ _ rfl rfl ?_
  simp only [Ty.lim] at h
  obtain ⟨l0, l1, l2⟩ := h
  have e0 := c83_eq x.fields l0
  simp [e0]
noncomputable def c59 := ctr (fun x : Ty => x.lim) (fun x => [x.v, x.v]) (fun _ => (false, .bool true))
theorem c59_eq (x : Ty) (h : x.lim) : c59 [x.v, x.v] = some (false, .bool true) := ctr_eq (fun _ _ _ => rfl) x h rfl
theorem c59_ok : COK Tryz.prog (59, c59) := ctr_ok fun x h => f59_ok x h

theorem f32_ok (xs : List Ty) (hlim : limL Ty.lim xs) : FunOK Tryz.prog 32 [.lst (xs.map Ty.v), .lst (xs.map Ty.v)] false (.bool true) := by
  refine fun_ok (mkE_ok zmix (cl := [(59, c59)]) (gl := []) [] c59_ok trivial) Tryz.func32 (by kernel_rfl) ?_
  refine FunW_run _ _ rfl rfl ?_
  have hlen := hlim.1
  simp only [lim] at hlen
  simp
  refine lp_list xs (fun i t => t.e 0 = .lst (xs.map Ty.v) ∧ t.e 1 = .lst (xs.map Ty.v) ∧ t.e 5 = .int .i64 i) ?_ ?_ ?_
  · simp
  · rintro c' L hL i t x hx hi ih ⟨g0, g1, g5⟩
    have hw : IntKind.i64.wrap ((i : Int) + 1) = ((i + 1 : Nat) : Int) := wrap64 (by omega) (by omega)
    have e := c59_eq x (hlim.2 x (List.mem_of_getElem? hx))
    simp only [Ty.v] at e
    simp [-getElem?_pos, List.getElem?_cons_zero, List.getElem?_cons_succ, g0, g1, g5, hL, hx, hi, e]
    refine ih _ ?_
    simp [-getElem?_pos, List.getElem?_cons_zero, List.getElem?_cons_succ, g0, g1, g5, hL, hx, hi, hw]
  · rintro c' t ⟨g0, g1, g5⟩
    simp [g0, g1, g5]
noncomputable def c32 := ctr (fun xs : List Ty => limL Ty.lim xs) (fun xs => [.lst (xs.map Ty.v), .lst (xs.map Ty.v)]) (fun _ => (false, .bool true))
theorem c32_eq (xs : List Ty) (h : limL Ty.lim xs) : c32 [.lst (xs.map Ty.v), .lst (xs.map Ty.v)] = some (false, .bool true) := ctr_eq (fun _ _ _ => rfl) xs h rfl
theorem c32_ok : COK Tryz.prog (32, c32) := ctr_ok fun xs h => f32_ok xs h

theorem f60_ok (x : Obj) (h : x.lim) : FunOK Tryz.prog 60 [x.v, x.v] false (.bool true) := by
  refine fun_ok (mkE_ok zmix (cl := [(84, c84)]) (gl := []) [] c84_ok trivial) Tryz.func60 (by kernel_rfl) ?_
  refine FunW_run _ _ rfl rfl ?_
  simp only [Obj.lim] at h
  obtain ⟨l0, l1⟩ := h
  have e1 := c84_eq x.params l1
  simp [e1]
noncomputable def c60 := ctr (fun x : Obj => x.lim) (fun x => [x.v, x.v]) (fun _ => (false, .bool true))
theorem c60_eq (x : Obj) (h : x.lim) : c60 [x.v, x.v] = some (false, .bool true) := ctr_eq (fun _ _ _ => rfl) x h rfl
theorem c60_ok : COK Tryz.prog (60, c60) := ctr_ok fun x h => f60_ok x h

theorem f33_ok (xs : List Obj) (hlim : limL Obj.lim xs) : FunOK Tryz.prog 33 [.lst (xs.map Obj.v), .lst (xs.map Obj.v)] false (.bool true) := by
  refine fun_ok (mkE_ok zmix (cl := [(60, c60)]) (gl := []) [] c60_ok trivial) Tryz.func33 (by kernel_rfl) ?_
  refine FunW_run _ _ rfl rfl ?_
  have hlen := hlim.1
  simp only [lim] at hlen
  simp
  refine lp_list xs (fun i t => t.e 0 = .lst (xs.map Obj.v) ∧ t.e 1 = .lst (xs.map Obj.v) ∧ t.e 5 = .int .i64 i) ?_ ?_ ?_
  · simp
  · rintro c' L hL i t x hx hi ih ⟨g0, g1, g5⟩
    have hw : IntKind.i64.wrap ((i : Int) + 1) = ((i + 1 : Nat) : Int) := wrap64 (by omega) (by omega)
    have e := c60_eq x (hlim.2 x (List.mem_of_getElem? hx))
    simp only [Obj.v] at e
    simp [-getElem?_pos, List.getElem?_cons_zero, List.getElem?_cons_succ, g0, g1, g5, hL, hx, hi, e]
    refine ih _ ?_
    simp [-getElem?_pos, List.getElem?_cons_zero, List.getElem?_cons_succ, g0, g1, g5, hL, hx, hi, hw]
  · rintro c' t ⟨g0, g1, g5⟩
    simp [g0, g1, g5]
noncomputable def c33 := ctr (fun xs : List Obj => limL Obj.lim xs) (fun xs => [.lst (xs.map Obj.v), .lst (xs.map Obj.v)]) (fun _ => (false, .bool true))
theorem c33_eq (xs : List Obj) (h : limL Obj.lim xs) : c33 [.lst (xs.map Obj.v), .lst (xs.map Obj.v)] = some (false, .bool true) := ctr_eq (fun _ _ _ => rfl) xs h rfl
theorem c33_ok : COK Tryz.prog (33, c33) := ctr_ok fun xs h => f33_ok xs h

theorem f11_ok (x : Scp) (h : x.lim) : FunOK Tryz.prog 11 [x.v, x.v] false (.bool true) := by
  refine fun_ok (mkE_ok zmix (cl := [(10, c10), (32, c32), (33, c33), (34, c34)]) (gl := []) [] ⟨c10_ok, c32_ok, c33_ok, c34_ok⟩ trivial) Tryz.func11 (by kernel_rfl) ?_
  refine FunW_run _ _ rfl rfl ?_
  simp only [Scp.lim] at h
  obtain ⟨l0, l1, l2, l3, l4⟩ := h
  have e1 := c10_eq x.imports l1
  have e2 := c32_eq x.types l2
  have e3 := c33_eq x.objects l3
  have e4 := c34_eq x.uses l4
  simp [e1, e2, e3, e4]
noncomputable def c11 := ctr (fun x : Scp => x.lim) (fun x => [x.v, x.v]) (fun _ => (false, .bool true))
theorem c11_eq (x : Scp) (h : x.lim) : c11 [x.v, x.v] = some (false, .bool true) := ctr_eq (fun _ _ _ => rfl) x h rfl
theorem c11_ok : COK Tryz.prog (11, c11) := ctr_ok fun x h => f11_ok x h

end Go.TM.Tryz
end
section
set_option maxHeartbeats 4000000
set_option maxRecDepth 20000
set_option linter.unusedSimpArgs false
set_option linter.unusedVariables false
namespace Go.TM
theorem cnt_le {α : Type} {c f : α → Nat} (h : ∀ x, c x ≤ 8 + 8 * f x) (xs : List α) : cnt c xs ≤ 8 * szL f xs := by
  induction xs with
  | nil => simp [cnt, szL]
  | cons x xs ih =>
    have := h x
    simp only [cnt, szL, List.map_cons, List.sum_cons, List.length_cons] at *
    omega
theorem cTy_le (x : Ty) : cTy x ≤ 8 + 8 * x.sz := by
  have := cnt_le (c := cFld) (f := Fld.sz) (fun y => by simp [cFld]; omega) x.fields
  simp only [cTy, Ty.sz]
  omega
theorem cObj_le (x : Obj) : cObj x ≤ 8 + 8 * x.sz := by
  have := cnt_le (c := cPar) (f := Par.sz) (fun y => by simp [cPar]; omega) x.params
  simp only [cObj, Obj.sz]
  omega
theorem Scp.cnts {x : Scp} (h : x.sz ≤ 1048576) : cnt cStr x.imports + cnt cTy x.types + cnt cObj x.objects + cnt cUse x.uses ≤ 8388608 := by
  have h1 := cnt_le (c := cStr) (f := ByteArray.size) (fun y => by simp [cStr]; omega) x.imports
  have h2 := cnt_le (c := cTy) (f := Ty.sz) cTy_le x.types
  have h3 := cnt_le (c := cObj) (f := Obj.sz) cObj_le x.objects
  have h4 := cnt_le (c := cUse) (f := Use.sz) (fun y => by simp [cUse]; omega) x.uses
  simp only [Scp.sz] at h
  omega
theorem Scp.lens {x : Scp} (h : x.sz ≤ 1048576) : x.imports.length ≤ 1048576 ∧ (x.types.length ≤ 1048576 ∧ ∀ y ∈ x.types, y.fields.length ≤ 1048576) ∧ (x.objects.length ≤ 1048576 ∧ ∀ y ∈ x.objects, y.params.length ≤ 1048576) ∧ x.uses.length ≤ 1048576 := by
  have h1 := szL_len ByteArray.size x.imports
  have h2 := szL_len Ty.sz x.types
  have h3 := szL_len Obj.sz x.objects
  have h4 := szL_len Use.sz x.uses
  simp only [Scp.sz] at h
  refine ⟨by omega, ⟨by omega, fun y hy => ?_⟩, ⟨by omega, fun y hy => ?_⟩, by omega⟩
  · have a := szL_mem (f := Ty.sz) hy
    have b := szL_len Fld.sz y.fields
    simp only [Ty.sz] at a
    omega
  · have a := szL_mem (f := Obj.sz) hy
    have b := szL_len Par.sz y.params
    simp only [Obj.sz] at a
    omega
end Go.TM
namespace Go.TM.Tryz
open Go Go.TM Go.Proofs
theorem shown_lim {s : Scp} (h : s.lim) (b : Bool) : limL strLim (okStr b (shownL s.objects)) := by
  unfold okStr
  split
  · refine ⟨?_, fun x hx => ?_⟩
    · rw [shownL, List.length_map]
      exact Nat.le_trans (List.length_filter_le _ _) h.2.2.2.1.1
    · rw [shownL] at hx
      obtain ⟨o, ho, rfl⟩ := List.mem_map.1 hx
      exact (h.2.2.2.1.2 o (List.mem_filter.1 ho).1).1
  · exact ⟨Nat.zero_le _, fun _ h => (by cases h)⟩
theorem f3_ok (s : Scp) (hl : s.lim) : FunOK Tryz.prog 3 [s.v] false (.bool true) := by
  refine fun_ok (mkE_ok zmix (cl := [(6, c6), (8, c8), (7, c7), (9, c9), (10, c10), (11, c11), (14, c14)]) (gl := [(12, [true], c12), (13, [true], c13)]) [(10, [(0, false), (1, false), (2, true), (3, true), (4, false)])] ⟨c6_ok, c8_ok, c7_ok, c9_ok, c10_ok, c11_ok, c14_ok⟩ ⟨c12_ok, c13_ok⟩) Tryz.func3 (by kernel_rfl) ?_
  refine FunW_run _ _ rfl rfl ?_
  have e6 := c6_eq s 1048576 hl (by omega) (by omega)
  simp only [Scp.v] at e6
  by_cases hz : ¬ (s.sz : Int) ≤ 1048576
  · rw [szR_lt (by omega)] at e6
    simp [e6]
  have hz : s.sz ≤ 1048576 := by omega
  rw [szR_ge (by omega)] at e6
  have h0 : ¬ (1048576 : Int) < s.sz := by omega
  have e8 := c8_eq s.name s.imports s.types s.objects s.uses hz
  have e7 := c7_eq s hl
  have e9 := c9_eq s hl
  simp only [Scp.v] at e7 e9
  have e10 := c10_eq _ (shown_lim hl (scopeI s))
  have e11 := c11_eq s hl
  simp only [Scp.v] at e11
  have hc := Scp.cnts hz
  have hln := Scp.lens hz
  have e12 := c12_eq s 1 (by omega) (by omega) ⟨by omega, ⟨by omega, fun y hy => by have := hln.2.1.2 y hy; omega⟩, ⟨by omega, fun y hy => by have := hln.2.2.1.2 y hy; omega⟩, by omega⟩
  simp only [Scp.o] at e12
  have hn : (okStr (scopeI s) (shownL s.objects)).length ≤ 1048576 := by
    unfold okStr
    split
    · rw [shownL, List.length_map]
      exact Nat.le_trans (List.length_filter_le _ _) hln.2.2.1.1
    · simp
  generalize okStr (scopeI s) (shownL s.objects) = names at *
  have hcn : cnt cStr names ≤ 1048576 := by have := cnt_const (c := cStr) (m := 1) (fun _ => rfl) names; omega
  have e13 := c13_eq names 1 (by omega) (by omega) (by omega)
  have e14 := c14_eq names 1 (by omega) (by omega) (by omega)
  simp [e6, h0, e8, e7, e9, e10, e11, e12, e13, e14, pureOp, S.see, seeL, S.after, flatC]
  omega
end Go.TM.Tryz
end
section
set_option maxHeartbeats 4000000
set_option maxRecDepth 20000
set_option linter.unusedSimpArgs false
set_option linter.unusedVariables false
namespace Go.TM.Tryz
open Go Go.TM Go.Proofs
theorem uses_lim {s : Scp} (h : s.lim) (m : ByteArray) (b : Bool) : limL strLim (okStr b (usesL m s.uses)) := by
  unfold okStr
  split
  · refine ⟨?_, fun x hx => ?_⟩
    · rw [usesL, List.length_map]
      exact Nat.le_trans (List.length_filter_le _ _) h.2.2.2.2.1
    · rw [usesL] at hx
      obtain ⟨o, ho, rfl⟩ := List.mem_map.1 hx
      exact (h.2.2.2.2.2 o (List.mem_filter.1 ho).1).2
  · exact ⟨Nat.zero_le _, fun _ h => (by cases h)⟩
theorem f4_ok (s : Scp) (m : ByteArray) (hl : s.lim) (hm : m.size ≤ lim) : FunOK Tryz.prog 4 [s.v, .str m] false (.bool true) := by
  refine fun_ok (mkE_ok zmix (cl := [(6, c6), (8, c8), (15, c15), (16, c16), (10, c10), (11, c11), (14, c14)]) (gl := [(12, [true], c12), (13, [true], c13)]) [(12, [(0, false), (1, false), (2, true), (3, true), (4, false)])] ⟨c6_ok, c8_ok, c15_ok, c16_ok, c10_ok, c11_ok, c14_ok⟩ ⟨c12_ok, c13_ok⟩) Tryz.func4 (by kernel_rfl) ?_
  refine FunW_run _ _ rfl rfl ?_
  by_cases hmz : (1048576 : Int) < m.size
  · simp [hmz]
  have e6 := c6_eq s 1048576 hl (by omega) (by omega)
  simp only [Scp.v] at e6
  by_cases hz : ¬ (s.sz : Int) ≤ 1048576
  · rw [szR_lt (by omega)] at e6
    simp [e6, hmz]
  have hz : s.sz ≤ 1048576 := by omega
  rw [szR_ge (by omega)] at e6
  have h0 : ¬ (1048576 : Int) < s.sz := by omega
  have e8 := c8_eq s.name s.imports s.types s.objects s.uses hz
  have e7 := c15_eq s m hl hm
  have e9 := c16_eq s m hl hm
  simp only [Scp.v] at e7 e9
  have e10 := c10_eq _ (uses_lim hl m (scopeI s && nameB m))
  have e11 := c11_eq s hl
  simp only [Scp.v] at e11
  have hc := Scp.cnts hz
  have hln := Scp.lens hz
  have e12 := c12_eq s 1 (by omega) (by omega) ⟨by omega, ⟨by omega, fun y hy => by have := hln.2.1.2 y hy; omega⟩, ⟨by omega, fun y hy => by have := hln.2.2.1.2 y hy; omega⟩, by omega⟩
  simp only [Scp.o] at e12
  have hn : (okStr (scopeI s && nameB m) (usesL m s.uses)).length ≤ 1048576 := by
    unfold okStr
    split
    · rw [usesL, List.length_map]
      exact Nat.le_trans (List.length_filter_le _ _) hln.2.2.2
    · simp
  generalize okStr (scopeI s && nameB m) (usesL m s.uses) = names at *
  have hcn : cnt cStr names ≤ 1048576 := by have := cnt_const (c := cStr) (m := 1) (fun _ => rfl) names; omega
  have e13 := c13_eq names 1 (by omega) (by omega) (by omega)
  have e14 := c14_eq names 1 (by omega) (by omega) (by omega)
  simp [hmz, e6, h0, e8, e7, e9, e10, e11, e12, e13, e14, pureOp, S.see, seeL, S.after, flatC]
  omega
end Go.TM.Tryz
end
section
set_option maxHeartbeats 2000000
set_option linter.unusedSimpArgs false
set_option linter.unusedVariables false
namespace Go.TM.Tryz
open Go Go.TM Go.Proofs
section
variable {H : Type} {enc : TypeId × Value → H} {W : World}
theorem rd_Fld : Rd Tryz.prog W enc 125 Fld.v Fld.lim := fun fuel cs x h => by
  obtain ⟨hl, n, hf⟩ := rd_cells Tryz.underlying125 (by kernel_rfl) h
  match cs, hl with
  | [c0, c1, c2], _ =>
    obtain ⟨d0, y0, e0, h0⟩ := hf 0 _ rfl
    simp only [List.getElem?_cons_zero, List.getElem?_cons_succ, Option.some.injEq] at e0
    subst e0
    obtain ⟨a0, p0, q0⟩ := (rd_str Tryz.underlying9) _ _ _ h0
    obtain ⟨d1, y1, e1, h1⟩ := hf 1 _ rfl
    simp only [List.getElem?_cons_zero, List.getElem?_cons_succ, Option.some.injEq] at e1
    subst e1
    obtain ⟨a1, p1, q1⟩ := (rd_int Tryz.underlying3) _ _ _ h1
    obtain ⟨d2, y2, e2, h2⟩ := hf 2 _ rfl
    simp only [List.getElem?_cons_zero, List.getElem?_cons_succ, Option.some.injEq] at e2
    subst e2
    obtain ⟨a2, p2, q2⟩ := (rd_int Tryz.underlying3) _ _ _ h2
    exact ⟨⟨a0, a1, a2⟩, p0, q0.1, q1.1, q2.1, trivial⟩
theorem rd_Ty : Rd Tryz.prog W enc 78 Ty.v Ty.lim := fun fuel cs x h => by
  obtain ⟨hl, n, hf⟩ := rd_cells Tryz.underlying78 (by kernel_rfl) h
  match cs, hl with
  | [c0, c1, c2, c3, c4, c5], _ =>
    obtain ⟨d0, y0, e0, h0⟩ := hf 0 _ rfl
    simp only [List.getElem?_cons_zero, List.getElem?_cons_succ, Option.some.injEq] at e0
    subst e0
    obtain ⟨a0, p0, q0⟩ := (rd_int Tryz.underlying3) _ _ _ h0
    obtain ⟨d1, y1, e1, h1⟩ := hf 1 _ rfl
    simp only [List.getElem?_cons_zero, List.getElem?_cons_succ, Option.some.injEq] at e1
    subst e1
    obtain ⟨a1, p1, q1⟩ := (rd_int Tryz.underlying3) _ _ _ h1
    obtain ⟨d2, y2, e2, h2⟩ := hf 2 _ rfl
    simp only [List.getElem?_cons_zero, List.getElem?_cons_succ, Option.some.injEq] at e2
    subst e2
    obtain ⟨a2, p2, q2⟩ := (rd_int Tryz.underlying3) _ _ _ h2
    obtain ⟨d3, y3, e3, h3⟩ := hf 3 _ rfl
    simp only [List.getElem?_cons_zero, List.getElem?_cons_succ, Option.some.injEq] at e3
    subst e3
    obtain ⟨a3, p3, q3⟩ := (rd_slice Tryz.underlying76 (n := 3) (by kernel_rfl) (by omega) (fun _ => rfl) rd_Fld) _ _ _ h3
    obtain ⟨d4, y4, e4, h4⟩ := hf 4 _ rfl
    simp only [List.getElem?_cons_zero, List.getElem?_cons_succ, Option.some.injEq] at e4
    subst e4
    obtain ⟨a4, p4, q4⟩ := (rd_str Tryz.underlying9) _ _ _ h4
    obtain ⟨d5, y5, e5, h5⟩ := hf 5 _ rfl
    simp only [List.getElem?_cons_zero, List.getElem?_cons_succ, Option.some.injEq] at e5
    subst e5
    obtain ⟨a5, p5, q5⟩ := (rd_str Tryz.underlying9) _ _ _ h5
    exact ⟨⟨a0, a1, a2, a3, a4, a5⟩, ⟨p3, p4, p5⟩, q0.1, q1.1, q2.1, q3.1, q4.1, q5.1, trivial⟩
theorem rd_Par : Rd Tryz.prog W enc 127 Par.v Par.lim := fun fuel cs x h => by
  obtain ⟨hl, n, hf⟩ := rd_cells Tryz.underlying127 (by kernel_rfl) h
  match cs, hl with
  | [c0, c1, c2], _ =>
    obtain ⟨d0, y0, e0, h0⟩ := hf 0 _ rfl
    simp only [List.getElem?_cons_zero, List.getElem?_cons_succ, Option.some.injEq] at e0
    subst e0
    obtain ⟨a0, p0, q0⟩ := (rd_str Tryz.underlying9) _ _ _ h0
    obtain ⟨d1, y1, e1, h1⟩ := hf 1 _ rfl
    simp only [List.getElem?_cons_zero, List.getElem?_cons_succ, Option.some.injEq] at e1
    subst e1
    obtain ⟨a1, p1, q1⟩ := (rd_bool Tryz.underlying4) _ _ _ h1
    obtain ⟨d2, y2, e2, h2⟩ := hf 2 _ rfl
    simp only [List.getElem?_cons_zero, List.getElem?_cons_succ, Option.some.injEq] at e2
    subst e2
    obtain ⟨a2, p2, q2⟩ := (rd_int Tryz.underlying3) _ _ _ h2
    exact ⟨⟨a0, a1, a2⟩, p0, q0.1, q1.1, q2.1, trivial⟩
theorem rd_Obj : Rd Tryz.prog W enc 82 Obj.v Obj.lim := fun fuel cs x h => by
  obtain ⟨hl, n, hf⟩ := rd_cells Tryz.underlying82 (by kernel_rfl) h
  match cs, hl with
  | [c0, c1, c2, c3, c4, c5], _ =>
    obtain ⟨d0, y0, e0, h0⟩ := hf 0 _ rfl
    simp only [List.getElem?_cons_zero, List.getElem?_cons_succ, Option.some.injEq] at e0
    subst e0
    obtain ⟨a0, p0, q0⟩ := (rd_str Tryz.underlying9) _ _ _ h0
    obtain ⟨d1, y1, e1, h1⟩ := hf 1 _ rfl
    simp only [List.getElem?_cons_zero, List.getElem?_cons_succ, Option.some.injEq] at e1
    subst e1
    obtain ⟨a1, p1, q1⟩ := (rd_int Tryz.underlying3) _ _ _ h1
    obtain ⟨d2, y2, e2, h2⟩ := hf 2 _ rfl
    simp only [List.getElem?_cons_zero, List.getElem?_cons_succ, Option.some.injEq] at e2
    subst e2
    obtain ⟨a2, p2, q2⟩ := (rd_int Tryz.underlying3) _ _ _ h2
    obtain ⟨d3, y3, e3, h3⟩ := hf 3 _ rfl
    simp only [List.getElem?_cons_zero, List.getElem?_cons_succ, Option.some.injEq] at e3
    subst e3
    obtain ⟨a3, p3, q3⟩ := (rd_int Tryz.underlying3) _ _ _ h3
    obtain ⟨d4, y4, e4, h4⟩ := hf 4 _ rfl
    simp only [List.getElem?_cons_zero, List.getElem?_cons_succ, Option.some.injEq] at e4
    subst e4
    obtain ⟨a4, p4, q4⟩ := (rd_int Tryz.underlying3) _ _ _ h4
    obtain ⟨d5, y5, e5, h5⟩ := hf 5 _ rfl
    simp only [List.getElem?_cons_zero, List.getElem?_cons_succ, Option.some.injEq] at e5
    subst e5
    obtain ⟨a5, p5, q5⟩ := (rd_slice Tryz.underlying80 (n := 3) (by kernel_rfl) (by omega) (fun _ => rfl) rd_Par) _ _ _ h5
    exact ⟨⟨a0, a1, a2, a3, a4, a5⟩, ⟨p0, p5⟩, q0.1, q1.1, q2.1, q3.1, q4.1, q5.1, trivial⟩
theorem rd_Use : Rd Tryz.prog W enc 84 Use.v Use.lim := fun fuel cs x h => by
  obtain ⟨hl, n, hf⟩ := rd_cells Tryz.underlying84 (by kernel_rfl) h
  match cs, hl with
  | [c0, c1], _ =>
    obtain ⟨d0, y0, e0, h0⟩ := hf 0 _ rfl
    simp only [List.getElem?_cons_zero, List.getElem?_cons_succ, Option.some.injEq] at e0
    subst e0
    obtain ⟨a0, p0, q0⟩ := (rd_str Tryz.underlying9) _ _ _ h0
    obtain ⟨d1, y1, e1, h1⟩ := hf 1 _ rfl
    simp only [List.getElem?_cons_zero, List.getElem?_cons_succ, Option.some.injEq] at e1
    subst e1
    obtain ⟨a1, p1, q1⟩ := (rd_str Tryz.underlying9) _ _ _ h1
    exact ⟨⟨a0, a1⟩, ⟨p0, p1⟩, q0.1, q1.1, trivial⟩
theorem rd_Scp : Rd Tryz.prog W enc 27 Scp.v Scp.lim := fun fuel cs x h => by
  obtain ⟨hl, n, hf⟩ := rd_cells Tryz.underlying27 (by kernel_rfl) h
  match cs, hl with
  | [c0, c1, c2, c3, c4], _ =>
    obtain ⟨d0, y0, e0, h0⟩ := hf 0 _ rfl
    simp only [List.getElem?_cons_zero, List.getElem?_cons_succ, Option.some.injEq] at e0
    subst e0
    obtain ⟨a0, p0, q0⟩ := (rd_str Tryz.underlying9) _ _ _ h0
    obtain ⟨d1, y1, e1, h1⟩ := hf 1 _ rfl
    simp only [List.getElem?_cons_zero, List.getElem?_cons_succ, Option.some.injEq] at e1
    subst e1
    obtain ⟨a1, p1, q1⟩ := (rd_slice Tryz.underlying22 (n := 1) (by kernel_rfl) (by omega) (fun _ => rfl) (rd_str Tryz.underlying9)) _ _ _ h1
    obtain ⟨d2, y2, e2, h2⟩ := hf 2 _ rfl
    simp only [List.getElem?_cons_zero, List.getElem?_cons_succ, Option.some.injEq] at e2
    subst e2
    obtain ⟨a2, p2, q2⟩ := (rd_slice Tryz.underlying23 (n := 6) (by kernel_rfl) (by omega) (fun _ => rfl) rd_Ty) _ _ _ h2
    obtain ⟨d3, y3, e3, h3⟩ := hf 3 _ rfl
    simp only [List.getElem?_cons_zero, List.getElem?_cons_succ, Option.some.injEq] at e3
    subst e3
    obtain ⟨a3, p3, q3⟩ := (rd_slice Tryz.underlying24 (n := 6) (by kernel_rfl) (by omega) (fun _ => rfl) rd_Obj) _ _ _ h3
    obtain ⟨d4, y4, e4, h4⟩ := hf 4 _ rfl
    simp only [List.getElem?_cons_zero, List.getElem?_cons_succ, Option.some.injEq] at e4
    subst e4
    obtain ⟨a4, p4, q4⟩ := (rd_slice Tryz.underlying25 (n := 2) (by kernel_rfl) (by omega) (fun _ => rfl) rd_Use) _ _ _ h4
    exact ⟨⟨a0, a1, a2, a3, a4⟩, ⟨p0, p1, p2, p3, p4⟩, q0.1, q1.1, q2.1, q3.1, q4.1, trivial⟩
end
end Go.TM.Tryz
end
section
set_option linter.unusedVariables false
set_option linter.unusedSimpArgs false
namespace Go.TM
open Go Go.RowKit
theorem srl_of_fr {M : Mem} {W : World} {l : V} {u : Value} (hl : frL l = true) (h : FR W M.F (vw l) u) : SRL M W l u := by
  cases l <;> simp only [frL, Bool.false_eq_true] at hl
  · cases h; rfl
  · cases h; rfl
  · cases h; rfl
  · exact h
/-- At a call's beginning: all that lies there is read alone. -/
def mem1 (W : World) : Mem := ⟨Old W, fun _ => none, fun _ => 0, fun _ => undef, fun _ _ _ => undef, 0, 0⟩
theorem mem1_ok {W : World} {args : List V} (h : adCs args S.zero = (args, S.zero)) : MemOK (mem1 W) W (start args []) := by
  have hR : (start args []).R = fun _ => none := by simp only [start, h]; rfl
  have hB : (start args []).B = fun _ => none := by
    funext x
    simp [start, h, adCs]
  refine ⟨by simp only [start, h]; rfl, by simp only [start, h]; rfl, fun b c hb => ?_, fun t r hr => ?_, fun b hb => ⟨rfl, hb⟩, fun b l hl => (by cases hl), fun b t hl => (by cases hl), fun b k hl => (by cases hl)⟩
  · rw [hB] at hb; cases hb
  · rw [hR] at hr; cases hr
theorem sr1_of_all {W : World} {xs : List V} {cs : List Value} (hf : xs.all frL = true) (h : All2 (fun l u => FR W (Old W) (vw l) u) xs cs) : SR1 (mem1 W) W (.agg xs) (.agg cs.toArray) :=
  ⟨cs, rfl, h.imp_mem fun l u hl hr => srl_of_fr (M := mem1 W) (List.all_eq_true.1 hf l hl) hr⟩
theorem close_bool {M : Mem} {W : World} {s : S} {k : Nat} {sv : V} {v : Value} {b : Bool} (hr : SR2 M W sv v) (hc : closeR s k sv = .bool b) : v = .bool b := by
  cases sv with
  | bool c =>
    simp [closeR, closeB, onL1, closeL] at hc
    subst hc
    exact hr
  | tup xs => simp [closeR] at hc
  | agg xs => simp [closeR, closeB, onL1] at hc
  | ptr b' o =>
    cases o with
    | zero =>
      simp only [closeR, closeB] at hc
      split at hc
      · split at hc <;> cases hc
      · cases hc
    | succ o => simp [closeR, closeB, onL1, closeL] at hc
  | own t =>
    simp only [closeR, closeB, onL1, closeL] at hc
    split at hc <;> cases hc
  | fn f caps => cases caps <;> simp [closeR, closeB, onL1, closeL] at hc
  | _ => simp [closeR, closeB, onL1, closeL] at hc
theorem run_true {P : Program} {f : FuncId} {args : List V} (h : FunOK P f args false (.bool true)) (hs : adCs args S.zero = (args, S.zero)) {W : World} {vs : List Value} (hv : All2 (SR1 (mem1 W) W) args vs) :
    Calls P f vs.toArray W fun e W' => e = .returned (.bool true) ∧ Below W.heap.size W W' := by
  refine (h.calls (mem1 W) W vs (mem1_ok hs) (by rw [hs]; exact hv)).mono ?_
  rintro e W' ⟨v, M', s', sv, rfl, hp⟩
  rw [close_bool hp.rel hp.res]
  exact ⟨rfl, hp.evo.os, hp.evo.tape, hp.evo.output, hp.evo.size, fun k hk => hp.evo.old k hk rfl⟩
end Go.TM
end
