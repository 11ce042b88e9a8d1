/- A part of the proof: RP, RQ, RT. -/
import Derived.Test.YtgpkbmekdmpgoaaGreatDoorK16
set_option linter.unusedVariables false
set_option linter.unusedSimpArgs false
section
set_option maxHeartbeats 16000000
set_option maxRecDepth 20000
namespace Go.TM.Tryz
open Go Go.TM Go.Proofs
def goodAtI (l : List Src) (i : Nat) (x : Src) : Bool := (impI x.text).2 && nameB x.name && decide ((i : Int) ≤ fstI (namIs x.name) l)
def goodToI (l : List Src) (i : Nat) : Bool := (List.range i).all fun k => match l[k]? with | some x => goodAtI l k x | none => true
theorem goodToI_succ {l : List Src} {i : Nat} {x : Src} (hx : l[i]? = some x) : goodToI l (i + 1) = (goodToI l i && goodAtI l i x) := by
  simp [goodToI, List.range_succ, hx]
theorem goodToI_no {l : List Src} {i : Nat} {x : Src} (hx : l[i]? = some x) (h : goodAtI l i x = false) : goodToI l l.length = false := by
  have hi : i < l.length := (List.getElem?_eq_some_iff.1 hx).1
  unfold goodToI
  rw [List.all_eq_false]
  exact ⟨i, List.mem_range.2 hi, by simp [hx, h]⟩
def goodLI (l : List Src) : Bool := goodToI l l.length && decide (l.length ≤ 8)
def stepI (l : List Src) (a : List Int) (n : ByteArray) : List Int := if 0 ≤ fstI (namIs n) l then a ++ [fstI (namIs n) l] else a
def numsI (l : List Src) (names : List ByteArray) : List Int := names.foldl (stepI l) []
noncomputable def rowI (l : List Src) (x : Src) : List Int := Lib.compact (sortI (numsI l (impI x.text).1))
noncomputable def needsI (l : List Src) : List V := l.map fun x => .inl 1 ((rowI l x).map (V.int .i64))
theorem f62_ok (l : List Src) (hl : SrcsOk l) (hnm : ∀ x ∈ l, (impI x.text).1.length ≤ 1048576) : FunOK Tryz.prog 62 [.lst (l.map Src.v)] true (.tup [.inl 1 (if goodLI l = true then needsI l else []), .bool (goodLI l)]) := by
  refine fun_ok (mkE_ok zmix (cl := [(104, c104), (105, c105), (101, c101)]) (gl := [(106, [true], c106), (107, [true], c107)]) [] ⟨c104_ok, c105_ok, c101_ok⟩ ⟨c106_ok, c107_ok⟩) Tryz.func62 (by kernel_rfl) ?_
  refine FunW_run _ _ rfl rfl ?_
  obtain ⟨hlen, hsz⟩ := hl
  have hN : needsI l = (l.take l.length).map fun x => .inl 1 ((rowI l x).map (V.int .i64)) := by rw [List.take_length]; rfl
  have hll : l.length ≤ lim := by simp only [lim]; omega
  by_cases hbig : 8 < l.length
  · have hbig' : (8 : Int) < l.length := by omega
    have hg : goodLI l = false := by
      have : ¬ l.length ≤ 8 := by omega
      simp [goodLI, this]
    simp [hbig', hg]
  have hbig' : ¬ (8 : Int) < l.length := by omega
  simp [hbig']
  refine lp_list l (fun i t => t.nb = 1 + i ∧ t.B 0 = some (.lst (l.map Src.v)) ∧ t.e 1 = .ptr 0 0 ∧ t.e 5 = .fn 101 [.ptr 0 0] ∧ t.e 19 = .lst (l.map Src.v) ∧ t.e 20 = .int .i64 l.length ∧ t.e 21 = .int .i64 i ∧ goodToI l i = true ∧ (∃ ro, t.e 4 = .own ro ∧ ro < t.nt ∧ t.R ro = some ⟨1, (l.take i).map fun x => .inl 1 ((rowI l x).map (V.int .i64)), true⟩)) ?_ ?_ ?_
  · simp [goodToI]
  · rintro c' L hL i t x hx hi ih ⟨gnb, gB, g1, g5, g19, g20, g21, hall, ro, g4, hro, hR⟩
    have hw := wrI (i := i) (by omega)
    obtain ⟨hs1, hs2⟩ := hsz x (List.mem_of_getElem? hx)
    have hnl := hnm x (List.mem_of_getElem? hx)
    have e104 := c104_eq x.text hs2
    have e105 := c105_eq x.name hs1
    have e101 := c101_eq l x.name hll
    have hg : goodAtI l i x = ((impI x.text).2 && nameB x.name && decide ((i : Int) ≤ fstI (namIs x.name) l)) := rfl
    have hstep : (l.take (i + 1)).map (fun x => V.inl 1 ((rowI l x).map (V.int .i64))) = (l.take i).map (fun x => V.inl 1 ((rowI l x).map (V.int .i64))) ++ [.inl 1 ((Lib.compact (sortI (numsI l (impI x.text).1))).map (V.int .i64))] := by
      rw [List.take_add_one, hx]
      simp [rowI]
    have n1 : ¬ ro = t.nt := by omega
    have n2 : ¬ ro = t.nt + 1 := by omega
    have n0 : ¬ 0 = 1 + i := by omega
    generalize impI x.text = r at *
    generalize fstI (namIs x.name) l = a at *
    cases h1 : r.2 with
    | false =>
      have hno := goodToI_no hx (by rw [hg, h1]; rfl)
      have : goodLI l = false := by simp [goodLI, hno]
      simp [-getElem?_pos, gcz, gcs, gnb, gB, g1, g5, g19, g20, g21, g4, hL, hi, hx, e104, e105, e101, h1, n0, this]
    | true =>
      cases h2 : nameB x.name with
      | false =>
        have hno := goodToI_no hx (by rw [hg, h1, h2]; rfl)
        have : goodLI l = false := by simp [goodLI, hno]
        simp [-getElem?_pos, gcz, gcs, gnb, gB, g1, g5, g19, g20, g21, g4, hL, hi, hx, e104, e105, e101, h1, h2, n0, this]
      | true =>
        by_cases h3 : a < i
        · have hno := goodToI_no hx (by rw [hg, h1, h2]; simp [h3])
          have : goodLI l = false := by simp [goodLI, hno]
          simp [-getElem?_pos, gcz, gcs, gnb, gB, g1, g5, g19, g20, g21, g4, hL, hi, hx, e104, e105, e101, h1, h2, h3, n0, this]
        · simp [-getElem?_pos, gcz, gcs, gnb, gB, g1, g5, g19, g20, g21, g4, hL, hi, hx, e104, e105, e101, h1, h2, h3, n0, hR, n1, n2]
          have hpre : ∀ (j : Nat) (nm : ByteArray), r.1[j]? = some nm → (r.1.take (j + 1)).foldl (stepI l) [] = stepI l ((r.1.take j).foldl (stepI l) []) nm := fun j nm hj => by
            rw [List.take_add_one, hj]
            simp
          have hfin : (r.1.take r.1.length).foldl (stepI l) [] = numsI l r.1 := by rw [List.take_length]; rfl
          refine lp_list r.1 (fun j u => (u.nb = 1 + (i + 1) ∧ u.B 0 = some (.lst (l.map Src.v)) ∧ u.e 1 = .ptr 0 0 ∧ u.e 5 = .fn 101 [.ptr 0 0] ∧ u.e 19 = .lst (l.map Src.v) ∧ u.e 20 = .int .i64 l.length ∧ u.e 21 = .int .i64 i) ∧ (u.e 4 = .own ro ∧ u.R ro = some ⟨1, (l.take i).map fun x => .inl 1 ((rowI l x).map (V.int .i64)), true⟩) ∧ (u.e 49 = .own t.nt ∧ u.R t.nt = some ⟨1, r.1.map V.str, true⟩ ∧ u.e 50 = .int .i64 r.1.length ∧ u.e 51 = .int .i64 j) ∧ t.nt < u.nt ∧ (∃ rc, u.e 10 = .own rc ∧ rc < u.nt ∧ u.R rc = some ⟨1, ((r.1.take j).foldl (stepI l) []).map (V.int .i64), true⟩ ∧ ¬ rc = ro ∧ ¬ rc = t.nt) ∧ ((r.1.take j).foldl (stepI l) []).length ≤ j) ?_ ?_ ?_
          · have n3 : ¬ t.nt + 1 = ro := by omega
            simp [gnb, gB, g1, g5, g19, g20, g21, g4, hR, n0, n1, n2, n3]
            omega
          · rintro c2 L2 hL2 j u nm hj hjl ih2 ⟨⟨unb, uB, u1, u5, u19, u20, u21⟩, ⟨u4, uR⟩, ⟨u49, uN, u50, u51⟩, hnt, ⟨rc, u10, hrc, uC, d1, d2⟩, hal⟩
            have hw2 : IntKind.i64.wrap ((j : Int) + 1) = ((j + 1 : Nat) : Int) := wrap64 (by omega) (by omega)
            have e101' := c101_eq l nm hll
            have hs := hpre j nm hj
            generalize (r.1.take j).foldl (stepI l) [] = A at *
            have hv : stepI l A nm = (if 0 ≤ fstI (namIs nm) l then A ++ [fstI (namIs nm) l] else A) := rfl
            generalize fstI (namIs nm) l = k at *
            rw [hv] at hs
            have m1 : ¬ ro = u.nt := by omega
            have m2 : ¬ t.nt = u.nt := by omega
            have m3 : ¬ ro = u.nt + 1 := by omega
            have m4 : ¬ t.nt = u.nt + 1 := by omega
            have m5 : ¬ rc = u.nt := by omega
            have d1' : ¬ ro = rc := fun e => d1 e.symm
            have d2' : ¬ t.nt = rc := fun e => d2 e.symm
            by_cases hk : 0 ≤ k
            · rw [if_pos hk] at hs
              have r1 : room ⟨1, false, 8, .int .i64 0⟩ 1 := by simp [room]
              have r2 : room ⟨1, false, 8, .int .i64 0⟩ (A.length + 1) := by simp [room]; omega
              simp [-getElem?_pos, gcz, gcs, unb, uB, u1, u5, u19, u20, u21, u4, uR, u49, uN, u50, u51, u10, uC, hL2, hjl, hj, e101', hk, n0, r1, r2, m5]
              refine ih2 _ ⟨by simp [unb, uB, u1, u5, u19, u20, u21], by simp [u4, uR, d1', m1, m3], by simp [u49, uN, u50, u51, hw2, d2', m2, m4], by simp; omega, ⟨u.nt + 1, by simp, by simp, by rw [hs]; simp, by omega, by omega⟩, by rw [hs]; simp; omega⟩
            · rw [if_neg hk] at hs
              simp [-getElem?_pos, gcz, gcs, unb, uB, u1, u5, u19, u20, u21, u4, uR, u49, uN, u50, u51, u10, uC, hL2, hjl, hj, e101', hk, n0]
              refine ih2 _ ⟨by simp [unb, uB, u1, u5, u19, u20, u21], by simp [u4, uR], by simp [u49, uN, u50, u51, hw2], by simp; omega, ⟨rc, by simp [u10], by simp; omega, by rw [hs]; simp [uC], d1, d2⟩, by rw [hs]; omega⟩
          · rintro c2 u ⟨⟨unb, uB, u1, u5, u19, u20, u21⟩, ⟨u4, uR⟩, ⟨u49, uN, u50, u51⟩, hnt, ⟨rc, u10, hrc, uC, d1, d2⟩, hal⟩
            rw [hfin] at uC hal
            have hal' : (numsI l r.1).length ≤ 1048576 := by omega
            have e106 := c106_eq (numsI l r.1) hal'
            have hsl : (sortI (numsI l r.1)).length ≤ 1048576 := by rw [(sortI_perm _).length_eq]; exact hal'
            have e107 := c107_eq (sortI (numsI l r.1)) hsl
            generalize numsI l r.1 = A at *
            generalize sortI A = A2 at *
            generalize Lib.compact A2 = A3 at *
            have d1' : ¬ ro = rc := fun e => d1 e.symm
            have d2' : ¬ t.nt = rc := fun e => d2 e.symm
            have m1 : ∀ k, ¬ ro = u.nt + k := fun k => by omega
            have m2 : ∀ k, ¬ t.nt = u.nt + k := fun k => by omega
            have m3 : ¬ ro = u.nt := by omega
            have m4 : ¬ t.nt = u.nt := by omega
            have r1 : room ⟨1, false, 24, .inl 1 []⟩ 1 := by simp [room]
            have r2 : room ⟨1, false, 24, .inl 1 []⟩ (i + 1) := by simp [room]; omega
            have hmin : min i l.length = i := by omega
            simp [-getElem?_pos, gcz, gcs, unb, uB, u1, u5, u19, u20, u21, u4, uR, u49, uN, u50, u51, u10, uC, hL, e106, e107, n0, d1, d1', d2, d2', m1, m2, m3, m4, r1, r2, hmin, Nat.add_assoc]
            refine ih _ ⟨by simp [unb], by simp [uB], by simp [u1, killT], by simp [u5, killT], by simp [u19, killT], by simp [u20, killT], by simp [hw], ?_, u.nt + 2, by simp, by simp, ?_⟩
            · rw [goodToI_succ hx, hall, hg, h1, h2]
              have : (i : Int) ≤ a := by omega
              simp [this]
            · rw [hstep]
              simp
  · rintro c' t ⟨gnb, gB, g1, g5, g19, g20, g21, hall, ro, g4, hro, hR⟩
    rw [← hN] at hR
    have hg : goodLI l = true := by
      have : l.length ≤ 8 := by omega
      simp [goodLI, hall, this]
    simp [g1, g5, g19, g20, g21, g4, hR, hg]
end Go.TM.Tryz
end
section
namespace Go.TM
open Go
theorem compact_lt {l : List Int} (h : l.Pairwise (· ≤ ·)) : (Lib.compact l).Pairwise (· < ·) := by
  unfold Lib.compact Lib.compactUpTo
  rw [List.pairwise_map]
  have hr : ((List.range l.length).filter (Lib.keeps l.toArray)).Pairwise (· < ·) := List.Pairwise.filter _ List.pairwise_lt_range
  refine List.Pairwise.imp_of_mem ?_ hr
  intro i j hi hj hij
  simp only [List.mem_filter, List.mem_range, Lib.keeps, decide_eq_true_eq] at hi hj
  have hp : ∀ a b (ha : a < l.length) (hb : b < l.length), a ≤ b → l[a] ≤ l[b] := by
    intro a b ha hb hab
    by_cases e : a = b
    · subst e; exact Int.le_refl _
    · exact List.pairwise_iff_getElem.1 h a b ha hb (by omega)
  obtain ⟨hj1, hj2⟩ := hj
  have hi1 := hi.1
  have hne : l.toArray[j]! ≠ l.toArray[j - 1]! := by
    rcases hj2 with h0 | h0
    · omega
    · exact h0
  have a1 : l.toArray[j]! = l[j] := by rw [getElem!_pos l.toArray j (by simpa using hj1)]; simp
  have a2 : l.toArray[j - 1]! = l[j - 1] := by rw [getElem!_pos l.toArray (j - 1) (by simp; omega)]; simp
  have a3 : l.toArray[i]! = l[i] := by rw [getElem!_pos l.toArray i (by simpa using hi1)]; simp
  rw [a1, a2] at hne
  rw [a3, a1]
  have h1 := hp i (j - 1) hi1 (by omega) (by omega)
  have h2 := hp (j - 1) j (by omega) hj1 (by omega)
  omega
theorem asc_of : ∀ {l : List Int}, l.Pairwise (· < ·) → Asc l
  | [], _ => trivial
  | x :: xs, h => ⟨(List.pairwise_cons.1 h).1, asc_of (List.pairwise_cons.1 h).2⟩
theorem asc_ext : ∀ {a b : List Int}, Asc a → Asc b → (∀ x, x ∈ a ↔ x ∈ b) → a = b
  | [], [], _, _, _ => rfl
  | [], y :: b, _, _, h => by have := (h y).2 (by simp); simp at this
  | x :: a, [], _, _, h => by have := (h x).1 (by simp); simp at this
  | x :: a, y :: b, ha, hb, h => by
    have hxy : x = y := by
      have h1 := (h x).1 (by simp)
      have h2 := (h y).2 (by simp)
      rcases List.mem_cons.1 h1 with e | e
      · exact e
      · rcases List.mem_cons.1 h2 with e2 | e2
        · exact e2.symm
        · have := hb.1 x e
          have := ha.1 y e2
          omega
    subst hxy
    congr 1
    refine asc_ext ha.2 hb.2 fun z => ?_
    constructor
    · intro hz
      have h1 := (h z).1 (by simp [hz])
      rcases List.mem_cons.1 h1 with e | e
      · have := ha.1 z hz; omega
      · exact e
    · intro hz
      have h1 := (h z).2 (by simp [hz])
      rcases List.mem_cons.1 h1 with e | e
      · have := hb.1 z hz; omega
      · exact e
end Go.TM
namespace Go.TM.Tryz
open Go Go.TM
theorem nums_rel (l : List Src) : ∀ (ns : List ByteArray) (A : List Int) (B : List Int × Bool), Asc B.1 → (∀ x, x ∈ A ↔ x ∈ B.1) → Asc (ns.foldl (stepN l) B).1 ∧ ∀ x, x ∈ ns.foldl (stepI l) A ↔ x ∈ (ns.foldl (stepN l) B).1
  | [], A, B, h, he => ⟨h, he⟩
  | n :: ns, A, B, h, he => by
    simp only [List.foldl_cons]
    unfold stepI stepN
    by_cases hk : 0 ≤ fstI (namIs n) l
    · rw [if_pos hk, if_pos hk]
      refine nums_rel l ns _ _ (asc_put h) fun x => ?_
      rw [mem_put, List.mem_append, List.mem_singleton, he x]
    · rw [if_neg hk, if_neg hk]
      exact nums_rel l ns _ _ h he
theorem row_eq (l : List Src) (x : Src) : rowI l x = (numsN l (impS x.text).1).1 := by
  unfold rowI
  rw [imp_eq]
  obtain ⟨h1, h2⟩ := nums_rel l (impS x.text).1 [] ([], false) trivial (fun x => Iff.rfl)
  refine asc_ext (asc_of (compact_lt (sortI_sorted _))) h1 fun y => ?_
  rw [mem_compact, mem_sortI]
  exact h2 y
theorem fst_at {l : List Src} {i : Nat} {x : Src} (hx : l[i]? = some x) : ((i : Int) ≤ fstI (namIs x.name) l) ↔ fstI (namIs x.name) (l.take i) < 0 := by
  have hself : namIs x.name x = true := by simp [namIs]
  cases ha : anyI (namIs x.name) l i with
  | false =>
    rw [fst_yes hx hself ha]
    have : (l.take i).any (namIs x.name) = false := ha
    simp [fstI, this]
  | true =>
    have h1 : (l.take i).any (namIs x.name) = true := ha
    have h2 : fstI (namIs x.name) (l.take i) = ((l.take i).findIdx (namIs x.name) : Nat) := by
      unfold fstI
      rw [if_pos h1]
    have h3 : (l.take i).findIdx (namIs x.name) < (l.take i).length := List.findIdx_lt_length.2 (by simpa using h1)
    have h4 : l.any (namIs x.name) = true := by
      rw [List.any_eq_true] at h1 ⊢
      obtain ⟨y, hy, hp⟩ := h1
      exact ⟨y, List.mem_of_mem_take hy, hp⟩
    have h5 : fstI (namIs x.name) l = (l.findIdx (namIs x.name) : Nat) := by
      unfold fstI
      rw [if_pos h4]
    have h6 : l.findIdx (namIs x.name) < i := by
      rw [List.length_take] at h3
      have e := List.getElem_take (xs := l) (j := i) (i := (l.take i).findIdx (namIs x.name)) (h := by rw [List.length_take]; exact h3)
      have hp := List.findIdx_getElem (p := namIs x.name) (xs := l.take i) (w := by rw [List.length_take]; exact h3)
      rw [e] at hp
      have hlt : (l.take i).findIdx (namIs x.name) < l.length := by omega
      by_cases hh : (l.take i).findIdx (namIs x.name) < l.findIdx (namIs x.name)
      · have hn := List.not_of_lt_findIdx hh
        exfalso
        first
          | exact hn hp
          | (rw [hp] at hn; cases hn)
          | (have := hn.symm.trans hp; cases this)
      · omega
    rw [h2, h5]
    constructor
    · intro h; omega
    · intro h; omega
theorem goodTo_eq (l : List Src) (i : Nat) : goodToI l i = goodTo l i := by
  unfold goodToI goodTo
  congr 1
  funext k
  cases hx : l[k]? with
  | none => rfl
  | some x =>
    simp only
    unfold goodAtI goodAt
    rw [imp_eq]
    congr 1
    exact decide_eq_decide.2 (fst_at hx)
theorem goodL_eq (l : List Src) : goodLI l = goodL l := by
  unfold goodLI goodL
  rw [goodTo_eq]
end Go.TM.Tryz
end
section
set_option maxHeartbeats 8000000
set_option maxRecDepth 20000
namespace Go.TM.Tryz
open Go Go.TM
theorem readTS_300 (s : ByteArray) : (readTS s).1.length ≤ 300 := by
  unfold readTS
  split
  · simp
  · split
    · simp
    · rename_i h
      rcases rtS_bad s (s.size + 1) 0 [] with h1 | h1
      · have : ¬ 300 < (rtS s (s.size + 1) 0 []).1.length := fun h2 => h ⟨h1, h2⟩
        omega
      · rw [h1]; simp
theorem impC_len (l : List Tok) (z : Int) : ∀ (f : Nat) (p : CS) (out : List ByteArray), (impC l z f p out).2.length ≤ out.length + f
  | 0, p, out => Nat.le_refl _
  | f + 1, p, out => by
    unfold impC
    split
    · have := impC_len l z f (nameC l z (stepC p)).2 (out ++ [(nameC l z (stepC p)).1])
      rw [List.length_append, List.length_singleton] at this
      omega
    · simp only; omega
theorem impS_len (s : ByteArray) : (impS s).1.length ≤ 1048576 := by
  have h := readTS_300 s
  unfold impS
  split
  · split
    · simp
    · unfold endC
      split
      · have := impC_len (readTS s).1 s.size ((readTS s).1.length + 1) (nameC (readTS s).1 s.size (stepC (headC (readTS s).1 s.size))).2 [(nameC (readTS s).1 s.size (stepC (headC (readTS s).1 s.size))).1]
        change (firstC (readTS s).1 s.size).2.length ≤ _ at this
        rw [List.length_singleton] at this
        show (firstC (readTS s).1 s.size).2.length ≤ _
        omega
      · simp
  · simp
end Go.TM.Tryz
end
