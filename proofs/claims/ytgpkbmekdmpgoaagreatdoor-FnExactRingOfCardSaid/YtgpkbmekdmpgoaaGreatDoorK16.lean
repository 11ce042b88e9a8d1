/- A part of the proof: RM, RN, ZLayS, RO. -/
import Derived.Test.YtgpkbmekdmpgoaaGreatDoorK15
import Derived.Shelf.Lays
import Derived.Shelf.Lays2
import Derived.Test.YtgpkbmekdmpgoaaGreatDoorProg
import Derived.Shelf.Slices.In.SortNone
set_option linter.unusedVariables false
set_option linter.unusedSimpArgs false
section
set_option maxHeartbeats 8000000
set_option maxRecDepth 20000
namespace Go.TM.Tryz
open Go Go.TM Go.Proofs
noncomputable def putR (l : List Int) (n : Int) : V := if n ∈ l then .lst (l.map (V.int .i64)) else .inl 1 ((putN l n).map (V.int .i64))
theorem f100_ok (l : List Int) (n : Int) (hl : l.length ≤ 1048576) (ha : Asc l) : FunOK Tryz.prog 100 [.lst (l.map (V.int .i64)), .int .i64 n] (decide (n ∈ l)) (putR l n) := by
  refine fun_ok (mkE_ok zmix (cl := []) (gl := []) [] trivial trivial) Tryz.func100 (by kernel_rfl) ?_
  refine FunW_run _ _ rfl rfl ?_
  have htd : l.takeWhile (fun x => decide (x < n)) ++ l.dropWhile (fun x => decide (x < n)) = l := List.takeWhile_append_dropWhile
  have hput : n ∉ l → putN l n = l.takeWhile (fun x => decide (x < n)) ++ n :: l.dropWhile (fun x => decide (x < n)) := fun hn => if_neg hn
  have hget := fun i x => @tw_get _ (fun x : Int => decide (x < n)) l i x
  have hend := fun y => @tw_end _ (fun x : Int => decide (x < n)) l y
  have hat := fun h : n ∈ l => asc_at ha h
  generalize l.takeWhile (fun x => decide (x < n)) = tw at *
  generalize l.dropWhile (fun x => decide (x < n)) = dw at *
  have hlen : tw.length + dw.length = l.length := by rw [← htd, List.length_append]
  simp
  refine lp_list tw (fun i t => t.e 0 = .lst (l.map (V.int .i64)) ∧ t.e 1 = .int .i64 n ∧ t.e 5 = .int .i64 i) ?_ ?_ ?_
  · simp
  · rintro c' L hL i t x hx hi ih ⟨g0, g1, g5⟩
    have hw := wrI (i := i) (by omega)
    obtain ⟨hx', hp⟩ := hget i x hx
    have hp' : x < n := by simpa using hp
    have hil : i < l.length := by omega
    simp [-getElem?_pos, gcz, gcs, g0, g1, g5, hL, hil, hx', hp']
    refine ih _ ?_
    simp [g0, g1, g5, hw]
  · rintro c' t ⟨g0, g1, g5⟩
    have ht : l.take tw.length = tw := by rw [← htd]; simp
    have hd : l.drop tw.length = dw := by rw [← htd]; simp
    have r1 : room ⟨1, false, 8, .int .i64 0⟩ 1 := by simp [room]
    have r2 : ∀ k, k ≤ 1048577 → room ⟨1, false, 8, .int .i64 0⟩ k := fun k hk => by simp [room]; omega
    have hle : (tw.length : Int) ≤ l.length := by omega
    by_cases hn : n ∈ l
    · have hy := hat hn
      have hlt : tw.length < l.length := (List.getElem?_eq_some_iff.1 hy).1
      simp [-getElem?_pos, gcz, gcs, g0, g1, g5, hlt, hy, hle, r1, putR, hn]
    · have hput := hput hn
      unfold putR
      rw [if_neg hn]
      have hmin : min tw.length l.length = tw.length := by omega
      have hlv : ∀ xs : List Int, ∀ y ∈ xs.map (V.int .i64), (leaves y).length = 1 := fun xs y hy => by
        obtain ⟨z, _, rfl⟩ := List.mem_map.1 hy
        rfl
      by_cases hlt : tw.length < l.length
      · have hy := List.getElem?_eq_getElem hlt
        have hp := hend _ hy
        generalize l[tw.length] = y at hy hp
        have hp' : ¬ y < n := by simpa using hp
        have hne : ¬ y = n := fun e => hn (e ▸ List.mem_of_getElem? hy)
        simp [-getElem?_pos, gcz, gcs, g0, g1, g5, hlt, hy, hp', hne, hle, r1, hn]
        rw [← List.map_take, ht, show List.take l.length (l.map (V.int .i64)) = l.map (V.int .i64) from List.take_of_length_le (by simp), ← List.map_drop, hd, hmin]
        refine ⟨⟨r2 _ (by omega), hlv _⟩, r2 _ (by omega), ⟨r2 _ (by omega), hlv _⟩, ?_⟩
        rw [hput]
        simp
      · simp [-getElem?_pos, gcz, gcs, g0, g1, g5, hlt, hle, r1, hn]
        rw [← List.map_take, ht, show List.take l.length (l.map (V.int .i64)) = l.map (V.int .i64) from List.take_of_length_le (by simp), ← List.map_drop, hd, hmin]
        refine ⟨⟨r2 _ (by omega), hlv _⟩, r2 _ (by omega), ⟨r2 _ (by omega), hlv _⟩, ?_⟩
        rw [hput]
        simp
theorem inj100 {β : Type} (out : List Int × Int → β) : ∀ a b : List Int × Int, [V.lst (a.1.map (V.int .i64)), .int .i64 a.2] = [V.lst (b.1.map (V.int .i64)), .int .i64 b.2] → out a = out b := by
  rintro ⟨a, c⟩ ⟨b, d⟩ h
  simp only [List.cons.injEq, and_true, V.lst.injEq, V.int.injEq, true_and] at h
  rw [ints_inj h.1, h.2]
noncomputable def c100 := ctr (fun a : List Int × Int => a.1.length ≤ 1048576 ∧ Asc a.1) (fun a => [.lst (a.1.map (V.int .i64)), .int .i64 a.2]) (fun a => (decide (a.2 ∈ a.1), putR a.1 a.2))
theorem c100_eq (l : List Int) (n : Int) (h : l.length ≤ 1048576) (ha : Asc l) : c100 [.lst (l.map (V.int .i64)), .int .i64 n] = some (decide (n ∈ l), putR l n) := ctr_eq (inj100 _) (l, n) ⟨h, ha⟩ rfl
theorem c100_ok : COK Tryz.prog (100, c100) := ctr_ok fun a h => f100_ok a.1 a.2 h.1 h.2
def goodAt (l : List Src) (i : Nat) (x : Src) : Bool := (impS x.text).2 && nameB x.name && decide (fstI (namIs x.name) (l.take i) < 0)
def goodTo (l : List Src) (i : Nat) : Bool := (List.range i).all fun k => match l[k]? with | some x => goodAt l k x | none => true
theorem goodTo_succ {l : List Src} {i : Nat} {x : Src} (hx : l[i]? = some x) : goodTo l (i + 1) = (goodTo l i && goodAt l i x) := by
  simp [goodTo, List.range_succ, hx]
theorem goodTo_no {l : List Src} {i : Nat} {x : Src} (hx : l[i]? = some x) (h : goodAt l i x = false) : goodTo l l.length = false := by
  have hi : i < l.length := (List.getElem?_eq_some_iff.1 hx).1
  unfold goodTo
  rw [List.all_eq_false]
  exact ⟨i, List.mem_range.2 hi, by simp [hx, h]⟩
def goodL (l : List Src) : Bool := goodTo l l.length && decide (l.length ≤ 8)
def SrcsOk (l : List Src) : Prop := l.length ≤ 1048576 ∧ ∀ x ∈ l, x.name.size ≤ lim ∧ x.text.size ≤ 1000000000
theorem f59_ok (l : List Src) (hl : SrcsOk l) : FunOK Tryz.prog 59 [.lst (l.map Src.v)] false (.bool (goodL l)) := by
  refine fun_ok (mkE_ok zmix (cl := [(97, c97), (98, c98), (99, c99)]) (gl := []) [] ⟨c97_ok, c98_ok, c99_ok⟩ trivial) Tryz.func59 (by kernel_rfl) ?_
  refine FunW_run _ _ rfl rfl ?_
  obtain ⟨hlen, hsz⟩ := hl
  simp
  refine lp_list l (fun i t => t.e 0 = .lst (l.map Src.v) ∧ t.e 7 = .lst (l.map Src.v) ∧ t.e 8 = .int .i64 l.length ∧ t.e 9 = .int .i64 i ∧ goodTo l i = true) ?_ ?_ ?_
  · simp [goodTo]
  · rintro c' L hL i t x hx hi ih ⟨g0, g7, g8, g9, hall⟩
    have hw := wrI (i := i) (by omega)
    obtain ⟨hs1, hs2⟩ := hsz x (List.mem_of_getElem? hx)
    have e97 := c97_eq x.text hs2
    have e98 := c98_eq x.name hs1
    have e99 := c99_eq (l.take i) x.name (by rw [List.length_take]; simp only [lim]; omega)
    have hile : (i : Int) ≤ l.length := by omega
    have hile' : i ≤ l.length := by omega
    have hg : goodAt l i x = ((impS x.text).2 && nameB x.name && decide (fstI (namIs x.name) (l.take i) < 0)) := rfl
    generalize impS x.text = r at *
    generalize fstI (namIs x.name) (l.take i) = a at *
    rw [List.map_take] at e99
    cases h1 : r.2 with
    | false =>
      have hno := goodTo_no hx (by rw [hg, h1]; rfl)
      have : goodL l = false := by simp [goodL, hno]
      simp [-getElem?_pos, gcz, gcs, g0, g7, g8, g9, hL, hi, hx, e97, e98, e99, h1, hile, hile', this]
    | true =>
      cases h2 : nameB x.name with
      | false =>
        have hno := goodTo_no hx (by rw [hg, h1, h2]; rfl)
        have : goodL l = false := by simp [goodL, hno]
        simp [-getElem?_pos, gcz, gcs, g0, g7, g8, g9, hL, hi, hx, e97, e98, e99, h1, h2, hile, hile', this]
      | true =>
        by_cases h3 : a < 0
        · have h3' : ¬ 0 ≤ a := by omega
          simp [-getElem?_pos, gcz, gcs, g0, g7, g8, g9, hL, hi, hx, e97, e98, e99, h1, h2, h3, h3', hile, hile']
          refine ih _ ?_
          simp [g0, g7, g8, g9, hw, goodTo_succ hx, hall, hg, h1, h2, h3]
        · have h3' : 0 ≤ a := by omega
          have hno := goodTo_no hx (by rw [hg, h1, h2]; simp [h3])
          have : goodL l = false := by simp [goodL, hno]
          simp [-getElem?_pos, gcz, gcs, g0, g7, g8, g9, hL, hi, hx, e97, e98, e99, h1, h2, h3, h3', hile, hile', this]
  · rintro c' t ⟨g0, g7, g8, g9, hall⟩
    have hd : decide ((l.length : Int) ≤ 8) = decide (l.length ≤ 8) := by
      rw [Bool.eq_iff_iff]
      simp
      omega
    simp [g0, g7, g8, g9, goodL, hall, hd]
end Go.TM.Tryz
end
section
set_option maxHeartbeats 16000000
set_option maxRecDepth 20000
namespace Go.TM.Tryz
open Go Go.TM Go.Proofs
noncomputable def c59 := ctr (fun l : List Src => SrcsOk l) (fun l => [.lst (l.map Src.v)]) (fun l => (false, .bool (goodL l)))
theorem c59_eq (l : List Src) (h : SrcsOk l) : c59 [.lst (l.map Src.v)] = some (false, .bool (goodL l)) := ctr_eq (injl Src.v_inj _) l h rfl
theorem c59_ok : COK Tryz.prog (59, c59) := ctr_ok fun l h => f59_ok l h
def stepN (l : List Src) (a : List Int × Bool) (n : ByteArray) : List Int × Bool := if 0 ≤ fstI (namIs n) l then (putN a.1 (fstI (namIs n) l), decide (fstI (namIs n) l ∈ a.1)) else a
def elemV (a : List Int × Bool) : V := if a.2 = true then .lst (a.1.map (V.int .i64)) else .inl 1 (a.1.map (V.int .i64))
def numsN (l : List Src) (names : List ByteArray) : List Int × Bool := names.foldl (stepN l) ([], false)
def needsS (l : List Src) : List V := l.map fun x => elemV (numsN l (impS x.text).1)
def curR (t : S) (v : V) (a : List Int × Bool) (ro rn : Nat) : Prop :=
  (a.2 = false ∧ ∃ rc, v = .own rc ∧ rc < t.nt ∧ t.R rc = some ⟨1, a.1.map (V.int .i64), true⟩ ∧ ¬ rc = ro ∧ ¬ rc = rn) ∨ (a.2 = true ∧ v = .lst (a.1.map (V.int .i64)))
theorem putN_len (l : List Int) (n : Int) : (putN l n).length ≤ l.length + 1 := by
  unfold putN
  split
  · omega
  · have e : (l.takeWhile (fun x => decide (x < n))).length + (l.dropWhile (fun x => decide (x < n))).length = l.length := by
      rw [← List.length_append, List.takeWhile_append_dropWhile]
    simp only [List.length_append, List.length_cons]
    omega
theorem f60_ok (l : List Src) (hl : SrcsOk l) (hnm : ∀ x ∈ l, (impS x.text).1.length ≤ 1048576) : FunOK Tryz.prog 60 [.lst (l.map Src.v)] true (.inl 1 (needsS l)) := by
  refine fun_ok (mkE_ok zmix (cl := [(97, c97), (99, c99), (100, c100)]) (gl := []) [] ⟨c97_ok, c99_ok, c100_ok⟩ trivial) Tryz.func60 (by kernel_rfl) ?_
  refine FunW_run _ _ rfl rfl ?_
  obtain ⟨hlen, hsz⟩ := hl
  have hN : needsS l = (l.take l.length).map fun x => elemV (numsN l (impS x.text).1) := by rw [List.take_length]; rfl
  have hll : l.length ≤ lim := by simp only [lim]; omega
  simp
  refine lp_list l (fun i t => t.e 0 = .lst (l.map Src.v) ∧ t.e 12 = .lst (l.map Src.v) ∧ t.e 13 = .int .i64 l.length ∧ t.e 14 = .int .i64 i ∧ (∃ ro, t.e 3 = .own ro ∧ ro < t.nt ∧ t.R ro = some ⟨1, (l.take i).map fun x => elemV (numsN l (impS x.text).1), true⟩)) ?_ ?_ ?_
  · simp
  · rintro c' L hL i t x hx hi ih ⟨g0, g12, g13, g14, ro, g3, hro, hR⟩
    have hw := wrI (i := i) (by omega)
    obtain ⟨hs1, hs2⟩ := hsz x (List.mem_of_getElem? hx)
    have hnl := hnm x (List.mem_of_getElem? hx)
    have e97 := c97_eq x.text hs2
    have hstep : (l.take (i + 1)).map (fun x => elemV (numsN l (impS x.text).1)) = (l.take i).map (fun x => elemV (numsN l (impS x.text).1)) ++ [elemV (numsN l (impS x.text).1)] := by
      rw [List.take_add_one, hx]
      simp
    generalize impS x.text = r at *
    have n1 : ¬ ro = t.nt := by omega
    have n2 : ¬ ro = t.nt + 1 := by omega
    simp [-getElem?_pos, gcz, gcs, g0, g12, g13, g14, g3, hL, hi, hx, e97, hR, n1, n2]
    have hpre : ∀ (j : Nat) (nm : ByteArray), r.1[j]? = some nm → (r.1.take (j + 1)).foldl (stepN l) ([], false) = stepN l ((r.1.take j).foldl (stepN l) ([], false)) nm := fun j nm hj => by
      rw [List.take_add_one, hj]
      simp
    have hfin : (r.1.take r.1.length).foldl (stepN l) ([], false) = numsN l r.1 := by rw [List.take_length]; rfl
    refine lp_list r.1 (fun j u => (u.e 0 = .lst (l.map Src.v) ∧ u.e 12 = .lst (l.map Src.v) ∧ u.e 13 = .int .i64 l.length ∧ u.e 14 = .int .i64 i) ∧ (u.e 3 = .own ro ∧ u.R ro = some ⟨1, (l.take i).map fun x => elemV (numsN l (impS x.text).1), true⟩) ∧ (u.e 24 = .own t.nt ∧ u.R t.nt = some ⟨1, r.1.map V.str, true⟩ ∧ u.e 25 = .int .i64 r.1.length ∧ u.e 26 = .int .i64 j) ∧ t.nt < u.nt ∧ curR u (u.e 8) ((r.1.take j).foldl (stepN l) ([], false)) ro t.nt ∧ Asc ((r.1.take j).foldl (stepN l) ([], false)).1 ∧ ((r.1.take j).foldl (stepN l) ([], false)).1.length ≤ j) ?_ ?_ ?_
    · have n3 : ¬ t.nt + 1 = ro := by omega
      simp [g0, g12, g13, g14, g3, hR, n1, n2, n3, curR, Asc]
      try omega
    · rintro c2 L2 hL2 j u nm hj hjl ih2 ⟨⟨u0, u12, u13, u14⟩, ⟨u3, uR⟩, ⟨u24, uN, u25, u26⟩, hnt, hcur, hasc, hal⟩
      have hw2 : IntKind.i64.wrap ((j : Int) + 1) = ((j + 1 : Nat) : Int) := wrap64 (by omega) (by omega)
      have e99 := c99_eq l nm hll
      have hs := hpre j nm hj
      generalize (r.1.take j).foldl (stepN l) ([], false) = acc at *
      obtain ⟨A, fl⟩ := acc
      simp only at hasc hal
      have e100 := c100_eq A (fstI (namIs nm) l) (by omega) hasc
      have hv : stepN l (A, fl) nm = (if 0 ≤ fstI (namIs nm) l then (putN A (fstI (namIs nm) l), decide (fstI (namIs nm) l ∈ A)) else (A, fl)) := rfl
      generalize fstI (namIs nm) l = k at *
      rw [hv] at hs
      by_cases hk : 0 ≤ k
      · rw [if_pos hk] at hs
        have hasc2 := asc_put (n := k) hasc
        have hal2 := putN_len A k
        have hk' : ¬ k < 0 := by omega
        have fin : ∀ s' : S, s'.e 0 = .lst (l.map Src.v) → s'.e 12 = .lst (l.map Src.v) → s'.e 13 = .int .i64 l.length → s'.e 14 = .int .i64 i → s'.e 3 = .own ro → s'.R ro = some ⟨1, (l.take i).map fun x => elemV (numsN l (impS x.text).1), true⟩ → s'.e 24 = .own t.nt → s'.R t.nt = some ⟨1, r.1.map V.str, true⟩ → s'.e 25 = .int .i64 r.1.length → s'.e 26 = .int .i64 (IntKind.i64.wrap ((j : Int) + 1)) → t.nt < s'.nt → curR s' (s'.e 8) (putN A k, decide (k ∈ A)) ro t.nt → L2 s' := fun s' a0 a1 a2 a3 a4 a5 a6 a7 a8 a9 a10 a11 => by
          refine ih2 s' ?_
          rw [hs]
          exact ⟨⟨a0, a1, a2, a3⟩, ⟨a4, a5⟩, ⟨a6, a7, a8, by rw [a9, hw2]⟩, a10, a11, hasc2, by simp only; omega⟩
        have m1 : ¬ ro = u.nt := by omega
        have m2 : ¬ t.nt = u.nt := by omega
        by_cases hm : k ∈ A
        · have hp : putR A k = .lst (A.map (V.int .i64)) := if_pos hm
          have hq : putN A k = A := if_pos hm
          rw [hp, decide_eq_true hm] at e100
          rw [hq, decide_eq_true hm] at fin
          rcases hcur with ⟨h1, rc, h2, h3, h4, h5, h6⟩ | ⟨h1, h2⟩
          · have h5' : ¬ ro = rc := fun e => h5 e.symm
            have h6' : ¬ t.nt = rc := fun e => h6 e.symm
            simp only at h4
            simp [-getElem?_pos, gcz, gcs, u0, u12, u13, u14, u3, uR, u24, uN, u25, u26, hL2, hjl, hj, e99, hk, hk', h2, h4, e100]
            refine fin _ ?_ ?_ ?_ ?_ ?_ ?_ ?_ ?_ ?_ ?_ ?_ ?_ <;> simp [u0, u12, u13, u14, u3, uR, u24, uN, u25, u26, hnt, curR, h5, h6, h5', h6']
          · simp only at h2
            simp [-getElem?_pos, gcz, gcs, u0, u12, u13, u14, u3, uR, u24, uN, u25, u26, hL2, hjl, hj, e99, hk, hk', h2, e100]
            refine fin _ ?_ ?_ ?_ ?_ ?_ ?_ ?_ ?_ ?_ ?_ ?_ ?_ <;> simp [u0, u12, u13, u14, u3, uR, u24, uN, u25, u26, hnt, curR]
        · have hp : putR A k = .inl 1 ((putN A k).map (V.int .i64)) := if_neg hm
          rw [hp, decide_eq_false hm] at e100
          rw [decide_eq_false hm] at fin
          rcases hcur with ⟨h1, rc, h2, h3, h4, h5, h6⟩ | ⟨h1, h2⟩
          · simp only at h4
            simp [-getElem?_pos, gcz, gcs, u0, u12, u13, u14, u3, uR, u24, uN, u25, u26, hL2, hjl, hj, e99, hk, hk', h2, h4, e100]
            refine fin _ ?_ ?_ ?_ ?_ ?_ ?_ ?_ ?_ ?_ ?_ ?_ (.inl ⟨rfl, u.nt, ?_, ?_, ?_, ?_, ?_⟩) <;> first | (simp [u0, u12, u13, u14, u3, uR, u24, uN, u25, u26, m1, m2]; done) | (simp [m1, m2] <;> omega) | omega
          · simp only at h2
            simp [-getElem?_pos, gcz, gcs, u0, u12, u13, u14, u3, uR, u24, uN, u25, u26, hL2, hjl, hj, e99, hk, hk', h2, e100]
            refine fin _ ?_ ?_ ?_ ?_ ?_ ?_ ?_ ?_ ?_ ?_ ?_ (.inl ⟨rfl, u.nt, ?_, ?_, ?_, ?_, ?_⟩) <;> first | (simp [u0, u12, u13, u14, u3, uR, u24, uN, u25, u26, m1, m2]; done) | (simp [m1, m2] <;> omega) | omega
      · rw [if_neg hk] at hs
        have hk' : k < 0 := by omega
        simp [-getElem?_pos, gcz, gcs, u0, u12, u13, u14, u3, uR, u24, uN, u25, u26, hL2, hjl, hj, e99, hk, hk']
        refine ih2 _ ?_
        rw [hs]
        refine ⟨by simp [u0, u12, u13, u14], by simp [u3, uR], by simp [u24, uN, u25, u26, hw2], by simp; omega, ?_, hasc, by simp only; omega⟩
        rcases hcur with ⟨h1, rc, h2, h3, h4, h5, h6⟩ | ⟨h1, h2⟩
        · exact .inl ⟨h1, rc, by simp [h2], by simp; omega, by simp [h4], h5, h6⟩
        · exact .inr ⟨h1, by simp [h2]⟩
    · rintro c2 u ⟨⟨u0, u12, u13, u14⟩, ⟨u3, uR⟩, ⟨u24, uN, u25, u26⟩, hnt, hcur, hasc, hal⟩
      rw [hfin] at hcur hasc hal
      generalize numsN l r.1 = acc at *
      obtain ⟨A, fl⟩ := acc
      have m1 : ¬ ro = u.nt := by omega
      have m2 : ¬ t.nt = u.nt := by omega
      have m3 : ¬ ro = u.nt + 1 := by omega
      have r1 : room ⟨1, false, 24, .inl 1 []⟩ 1 := by simp [room]
      have r2 : room ⟨1, false, 24, .inl 1 []⟩ (i + 1) := by simp [room]; omega
      have hmin : min i l.length = i := by omega
      rcases hcur with ⟨h1, rc, h2, h3, h4, h5, h6⟩ | ⟨h1, h2⟩
      · simp only at h1 h4
        have h5' : ¬ ro = rc := fun e => h5 e.symm
        simp [-getElem?_pos, gcz, gcs, u0, u12, u13, u14, u3, uR, u24, uN, u25, u26, hL, h2, h4, h5, h5', h6, m1, m2, m3, r1, r2, hmin]
        subst h1
        refine ih _ ⟨by simp [u0], by simp [u12], by simp [u13], by simp [hw], u.nt + 1, by simp, by simp, ?_⟩
        rw [hstep]
        simp [elemV]
      · simp only at h1 h2
        simp [-getElem?_pos, gcz, gcs, u0, u12, u13, u14, u3, uR, u24, uN, u25, u26, hL, h2, m1, m2, m3, r1, r2, hmin]
        subst h1
        refine ih _ ⟨by simp [u0], by simp [u12], by simp [u13], by simp [hw], u.nt + 1, by simp, by simp, ?_⟩
        rw [hstep]
        simp [elemV]
  · rintro c' t ⟨g0, g12, g13, g14, ro, g3, hro, hR⟩
    rw [← hN] at hR
    simp [g0, g12, g13, g14, g3, hR]
end Go.TM.Tryz
end
section
namespace Go.Proofs
open Go.Shelf
def Tryz.lays189_ren : Go.Shelf.Ren := ⟨fun | 189 => 106 | 125 => 160 | 257 => 159 | 128 => 213 | 129 => 214 | 294 => 204 | 295 => 205 | 296 => 206 | 297 => 207 | 298 => 208 | 299 => 209 | 216 => 210 | 300 => 211 | 301 => 212 | 328 => 241 | 329 => 242 | 330 => 243 | 331 => 244 | 332 => 245 | 215 => 246 | 343 => 263 | n => n, fun | 28 => 46 | 3 => 3 | 46 => 198 | 0 => 0 | 51 => 239 | 53 => 145 | 4 => 4 | 183 => 232 | 182 => 231 | 131 => 175 | 5 => 5 | 9 => 9 | 218 => 257 | 222 => 261 | 228 => 272 | 229 => 273 | n => n, fun | n => n⟩
theorem Tryz.lays189 : Go.Proofs.Lays.n189 Tryz.prog Tryz.lays189_ren := {
  mixed := by kernel_rfl,
  f125 := Tryz.func160.trans (congrArg some (by kernel_rfl)),
  f128 := Tryz.func213.trans (congrArg some (by kernel_rfl)),
  f129 := Tryz.func214.trans (congrArg some (by kernel_rfl)),
  f189 := Tryz.func106.trans (congrArg some (by kernel_rfl)),
  f215 := Tryz.func246.trans (congrArg some (by kernel_rfl)),
  f216 := Tryz.func210.trans (congrArg some (by kernel_rfl)),
  f257 := Tryz.func159.trans (congrArg some (by kernel_rfl)),
  f294 := Tryz.func204.trans (congrArg some (by kernel_rfl)),
  f295 := Tryz.func205.trans (congrArg some (by kernel_rfl)),
  f296 := Tryz.func206.trans (congrArg some (by kernel_rfl)),
  f297 := Tryz.func207.trans (congrArg some (by kernel_rfl)),
  f298 := Tryz.func208.trans (congrArg some (by kernel_rfl)),
  f299 := Tryz.func209.trans (congrArg some (by kernel_rfl)),
  f300 := Tryz.func211.trans (congrArg some (by kernel_rfl)),
  f301 := Tryz.func212.trans (congrArg some (by kernel_rfl)),
  f328 := Tryz.func241.trans (congrArg some (by kernel_rfl)),
  f329 := Tryz.func242.trans (congrArg some (by kernel_rfl)),
  f330 := Tryz.func243.trans (congrArg some (by kernel_rfl)),
  f331 := Tryz.func244.trans (congrArg some (by kernel_rfl)),
  f332 := Tryz.func245.trans (congrArg some (by kernel_rfl)),
  f343 := Tryz.func263.trans (congrArg some (by kernel_rfl)),
  t0 := Tryz.underlying0,
  a0 := Tryz.isAgg0,
  z0 := Tryz.sizeOf0,
  v0 := Tryz.zeroValue0,
  t3 := Tryz.underlying3,
  a3 := Tryz.isAgg3,
  z3 := Tryz.sizeOf3,
  v3 := Tryz.zeroValue3,
  t4 := Tryz.underlying4,
  a4 := Tryz.isAgg4,
  z4 := Tryz.sizeOf4,
  v4 := Tryz.zeroValue4,
  t5 := Tryz.underlying5,
  a5 := Tryz.isAgg5,
  z5 := Tryz.sizeOf5,
  v5 := Tryz.zeroValue5,
  t9 := Tryz.underlying9,
  a9 := Tryz.isAgg9,
  z9 := Tryz.sizeOf9,
  v9 := Tryz.zeroValue9,
  t28 := Tryz.underlying46,
  a28 := Tryz.isAgg46,
  z28 := Tryz.sizeOf46,
  v28 := Tryz.zeroValue46,
  t46 := Tryz.underlying198,
  a46 := Tryz.isAgg198,
  z46 := Tryz.sizeOf198,
  v46 := Tryz.zeroValue198,
  t51 := Tryz.underlying239,
  a51 := Tryz.isAgg239,
  z51 := Tryz.sizeOf239,
  v51 := Tryz.zeroValue239,
  t53 := Tryz.underlying145,
  a53 := Tryz.isAgg145,
  z53 := Tryz.sizeOf145,
  v53 := Tryz.zeroValue145,
  t131 := Tryz.underlying175,
  a131 := Tryz.isAgg175,
  z131 := Tryz.sizeOf175,
  v131 := Tryz.zeroValue175,
  t182 := Tryz.underlying231,
  a182 := Tryz.isAgg231,
  z182 := Tryz.sizeOf231,
  v182 := Tryz.zeroValue231,
  t183 := Tryz.underlying232,
  a183 := Tryz.isAgg232,
  z183 := Tryz.sizeOf232,
  v183 := Tryz.zeroValue232,
  t218 := Tryz.underlying257,
  a218 := Tryz.isAgg257,
  z218 := Tryz.sizeOf257,
  v218 := Tryz.zeroValue257,
  t222 := Tryz.underlying261,
  a222 := Tryz.isAgg261,
  z222 := Tryz.sizeOf261,
  v222 := Tryz.zeroValue261,
  t228 := Tryz.underlying272,
  a228 := Tryz.isAgg272,
  z228 := Tryz.sizeOf272,
  v228 := Tryz.zeroValue272,
  t229 := Tryz.underlying273,
  a229 := Tryz.isAgg273,
  z229 := Tryz.sizeOf273,
  v229 := Tryz.zeroValue273 }
def Tryz.lays2_20_ren : Go.Shelf.Ren := ⟨fun | 20 => 107 | n => n, fun | 22 => 46 | 3 => 3 | 4 => 4 | 0 => 0 | n => n, fun | n => n⟩
theorem Tryz.lays2_20 : Go.Proofs.Lays2.n20 Tryz.prog Tryz.lays2_20_ren := {
  mixed := by kernel_rfl,
  f20 := Tryz.func107.trans (congrArg some (by kernel_rfl)),
  t0 := Tryz.underlying0,
  a0 := Tryz.isAgg0,
  z0 := Tryz.sizeOf0,
  v0 := Tryz.zeroValue0,
  t3 := Tryz.underlying3,
  a3 := Tryz.isAgg3,
  z3 := Tryz.sizeOf3,
  v3 := Tryz.zeroValue3,
  t4 := Tryz.underlying4,
  a4 := Tryz.isAgg4,
  z4 := Tryz.sizeOf4,
  v4 := Tryz.zeroValue4,
  t22 := Tryz.underlying46,
  a22 := Tryz.isAgg46,
  z22 := Tryz.sizeOf46,
  v22 := Tryz.zeroValue46,
  i3 := by kernel_rfl }
end Go.Proofs
end
section
set_option maxHeartbeats 2000000
namespace Go.TM.Tryz
open Go Go.TM Go.Proofs
theorem f106_ok (zs : List Int) (h : zs.length ≤ 1048576) : GenOK Tryz.prog 106 [.inl 1 (zs.map (V.int .i64))] [] ⟨false, .tup [], [.inl 1 ((sortI zs).map (V.int .i64))], []⟩ :=
  sort_all (by omega) ⟨_, Tryz.func106, by kernel_rfl, by kernel_rfl⟩ (fun blk off cap w hH hb => Any.slices_Sort_int Tryz.lays189 blk off cap zs w hH hb (by omega)) (fun a cap w => Any.slices_Sort_int_none Tryz.lays189 a cap w)
theorem inj_ints {β : Type} (out : List Int → β) : ∀ a b : List Int, (([.inl 1 (a.map (V.int .i64))], []) : List V × List V) = ([.inl 1 (b.map (V.int .i64))], []) → out a = out b := by
  intro a b h
  simp only [Prod.mk.injEq, List.cons.injEq, and_true, V.inl.injEq, true_and] at h
  rw [map_inj (f := V.int .i64) (by intro x y; simp) h]
noncomputable def c106 := ctrG (fun zs : List Int => zs.length ≤ 1048576) (fun zs => ([.inl 1 (zs.map (V.int .i64))], [])) (fun zs => ⟨false, .tup [], [.inl 1 ((sortI zs).map (V.int .i64))], []⟩)
theorem c106_eq (zs : List Int) (h : zs.length ≤ 1048576) : c106 [.inl 1 (zs.map (V.int .i64))] [] = some ⟨false, .tup [], [.inl 1 ((sortI zs).map (V.int .i64))], []⟩ := ctrG_eq (inj_ints _) zs h rfl
theorem c106_ok : GOK Tryz.prog (106, [true], c106) := ctrG_ok fun zs h => f106_ok zs h
theorem f107_ok (zs : List Int) (h : zs.length ≤ 1048576) : GenOK Tryz.prog 107 [.inl 1 (zs.map (V.int .i64))] [] ⟨true, .inl 1 ((Lib.compact zs).map (V.int .i64)), [.bad], []⟩ :=
  compact_gen (by omega) ⟨_, Tryz.func107, by kernel_rfl, by kernel_rfl⟩ (fun blk off cap w hH hc => Any.slices_Compact_int Tryz.lays2_20 blk off cap zs w hH (by omega) hc) (fun a cap w => Any.slices_Compact_int_empty Tryz.lays2_20 a cap w)
noncomputable def c107 := ctrG (fun zs : List Int => zs.length ≤ 1048576) (fun zs => ([.inl 1 (zs.map (V.int .i64))], [])) (fun zs => ⟨true, .inl 1 ((Lib.compact zs).map (V.int .i64)), [.bad], []⟩)
theorem c107_eq (zs : List Int) (h : zs.length ≤ 1048576) : c107 [.inl 1 (zs.map (V.int .i64))] [] = some ⟨true, .inl 1 ((Lib.compact zs).map (V.int .i64)), [.bad], []⟩ := ctrG_eq (inj_ints _) zs h rfl
theorem c107_ok : GOK Tryz.prog (107, [true], c107) := ctrG_ok fun zs h => f107_ok zs h
end Go.TM.Tryz
end
