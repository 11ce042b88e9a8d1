/- A part of the proof: QG, QH, QI, QJ. -/
import Derived.Test.YtgpkbmekdmpgoaaGreatDoorK08
import Derived.Shelf.Strings.SlTrimAscii
import Derived.Shelf.Strconv.Atoi
import Derived.Shelf.Small.Strs
set_option linter.unusedVariables false
set_option linter.unusedSimpArgs false
section
set_option maxHeartbeats 8000000
set_option maxRecDepth 20000
namespace Go.TM.Tryz
open Go Go.TM Go.Proofs Go.Shelf Go.RowKit
theorem f259_ok (s cs : ByteArray) (hs : s.size ≤ 1000000000) (hcs : cs.size < 4294967281) (ha : ∀ (j : Nat) b, cs.data.toList[j]? = some b → b.toNat < 128) :
    FunOK Tryz.prog 259 [.str s, .str cs] false (.str ⟨(Lib.trimS s.data.toList cs.data.toList).toArray⟩) := by
  refine fun_of_calls (args := [.str s, .str cs]) rfl rfl ⟨_, Tryz.func259, by kernel_rfl, by kernel_rfl⟩ fun W => ?_
  have h := Any.strings_Trim_laid Tryz.lays160 (by kernel_rfl) s cs W (by omega) hcs ha
  exact h
theorem f192_ok (s : ByteArray) (c : Nat) : FunOK Tryz.prog 192 [.str s, .int .u8 c] false (.int .i64 (Lib.indexByte s.data.toList (c : Int).toNat.toUInt8)) := by
  refine fun_of_calls (args := [.str s, .int .u8 c]) rfl rfl ⟨_, Tryz.func192, by kernel_rfl, by kernel_rfl⟩ fun W => ?_
  have h := Any.strings_IndexByte Tryz.lays137 s (c : Int) W
  refine Calls.mono h fun e w' hh => ?_
  obtain ⟨h1, rfl⟩ := hh
  exact ⟨h1, Below.refl _ _⟩
theorem f236_ok (s : ByteArray) (n : Int) (hl : s.size ≤ 18) (h : Lib.atoi s.data.toList = some n) : FunOK Tryz.prog 236 [.str s] false (.tup [.int .i64 n, .nili]) := by
  refine fun_of_calls (args := [.str s]) (r := .tup [.int .i64 n, .nili]) rfl rfl ⟨_, Tryz.func236, by kernel_rfl, by kernel_rfl⟩ fun W => ?_
  have hc := Any.strconv_Atoi Tryz.lays172 s n hl h W
  refine Calls.mono hc fun e w' hh => ?_
  obtain ⟨h1, t, rfl⟩ := hh
  refine ⟨h1, ⟨rfl, rfl, rfl, ?_, ?_⟩⟩
  · rw [Lib.bytesWorld_size]
    omega
  · intro k hk
    exact Lib.bytesWorld_at_old W _ t k hk
noncomputable def c259 := ctr (fun a : ByteArray × ByteArray => a.1.size ≤ 1000000000 ∧ a.2.size < 4294967281 ∧ ∀ (j : Nat) b, a.2.data.toList[j]? = some b → b.toNat < 128) (fun a => [.str a.1, .str a.2]) (fun a => (false, .str ⟨(Lib.trimS a.1.data.toList a.2.data.toList).toArray⟩))
theorem c259_eq (s cs : ByteArray) (hs : s.size ≤ 1000000000) (hcs : cs.size < 4294967281) (ha : ∀ (j : Nat) b, cs.data.toList[j]? = some b → b.toNat < 128) : c259 [.str s, .str cs] = some (false, .str ⟨(Lib.trimS s.data.toList cs.data.toList).toArray⟩) := ctr_eq (by rintro ⟨a, b⟩ ⟨c, d⟩; simp; rintro rfl rfl; simp) (s, cs) ⟨hs, hcs, ha⟩ rfl
theorem c259_ok : COK Tryz.prog (259, c259) := ctr_ok fun a h => f259_ok a.1 a.2 h.1 h.2.1 h.2.2
def inAll (s cs : ByteArray) : Bool := s.data.toList.all fun b => cs.data.toList.contains b
theorem dropWhile_nil {α : Type} (p : α → Bool) : ∀ (l : List α), l.dropWhile p = [] ↔ l.all p = true
  | [] => by simp
  | x :: l => by
    rw [List.dropWhile_cons, List.all_cons]
    cases h : p x with
    | true => simpa [h] using dropWhile_nil p l
    | false => simp [h]
theorem trimS_nil (l cs : List UInt8) : Lib.trimS l cs = [] ↔ (l.all fun b => cs.contains b) = true := by
  unfold Lib.trimS Lib.trimLeftS
  rw [dropWhile_nil]
  unfold Lib.trimRightS
  constructor
  · intro h
    rw [List.all_reverse] at h
    have h2 : (l.reverse.dropWhile (cs.contains ·)) = [] := by
      cases hd : l.reverse.dropWhile (cs.contains ·) with
      | nil => rfl
      | cons x r =>
        rw [hd, List.all_cons, Bool.and_eq_true] at h
        have := List.head_dropWhile_not (p := (cs.contains ·)) (l := l.reverse) (by rw [hd]; simp)
        simp only [hd, List.head_cons] at this
        rw [h.1] at this
        cases this
    rw [dropWhile_nil, List.all_reverse] at h2
    exact h2
  · intro h
    have h2 : (l.reverse.dropWhile (cs.contains ·)) = [] := by
      rw [dropWhile_nil, List.all_reverse]
      exact h
    rw [h2]
    rfl
theorem f235_ok (s cs : ByteArray) (hs : s.size ≤ 1000000000) (hcs : cs.size < 4294967281) (ha : ∀ (j : Nat) b, cs.data.toList[j]? = some b → b.toNat < 128) : FunOK Tryz.prog 235 [.str s, .str cs] false (.bool (inAll s cs)) := by
  refine fun_ok (mkE_ok zmix (cl := [(259, c259)]) (gl := []) [] c259_ok trivial) Tryz.func235 (by kernel_rfl) ?_
  refine FunW_run _ _ rfl rfl ?_
  have h := trimS_nil s.data.toList cs.data.toList
  have e := c259_eq s cs hs hcs ha
  have hb : decide ((⟨(Lib.trimS s.data.toList cs.data.toList).toArray⟩ : ByteArray) = ⟨#[]⟩) = inAll s cs := by
    unfold inAll
    rw [Bool.eq_iff_iff, decide_eq_true_eq, ← h]
    constructor
    · intro hh
      have := congrArg (fun x => x.data.toList) hh
      simpa using this
    · intro hh
      rw [hh]
  generalize (⟨(Lib.trimS s.data.toList cs.data.toList).toArray⟩ : ByteArray) = T at *
  rw [← hb]
  simp [e]
noncomputable def c235 := ctr (fun a : ByteArray × ByteArray => a.1.size ≤ 1000000000 ∧ a.2.size < 4294967281 ∧ ∀ (j : Nat) b, a.2.data.toList[j]? = some b → b.toNat < 128) (fun a => [.str a.1, .str a.2]) (fun a => (false, .bool (inAll a.1 a.2)))
theorem c235_eq (s cs : ByteArray) (hs : s.size ≤ 1000000000) (hcs : cs.size < 4294967281) (ha : ∀ (j : Nat) b, cs.data.toList[j]? = some b → b.toNat < 128) : c235 [.str s, .str cs] = some (false, .bool (inAll s cs)) := ctr_eq (by rintro ⟨a, b⟩ ⟨c, d⟩; simp; rintro rfl rfl; simp) (s, cs) ⟨hs, hcs, ha⟩ rfl
theorem c235_ok : COK Tryz.prog (235, c235) := ctr_ok fun a h => f235_ok a.1 a.2 h.1 h.2.1 h.2.2
def tDig : ByteArray := tW [48, 49, 50, 51, 52, 53, 54, 55, 56, 57]
def tHex : ByteArray := tW [48, 49, 50, 51, 52, 53, 54, 55, 56, 57, 65, 66, 67, 68, 69, 70]
theorem dig_all : ∀ x : Fin 256, tDig.data.toList.contains (UInt8.ofNat x.val) = (digV 10 x.val).isSome := by decide
theorem hex_all : ∀ x : Fin 256, tHex.data.toList.contains (UInt8.ofNat x.val) = (digV 16 x.val).isSome := by decide
theorem allD_list {base : Nat} {cs : ByteArray} (hcs : ∀ x : Fin 256, cs.data.toList.contains (UInt8.ofNat x.val) = (digV base x.val).isSome) (s : ByteArray) : ∀ (f i : Nat), i + f = s.size → allD base s f i = (s.data.toList.drop i).all fun b => cs.data.toList.contains b
  | 0, i, h => by
    have : s.data.toList.drop i = [] := by
      rw [List.drop_eq_nil_iff, Array.length_toList]
      have : s.data.size = s.size := rfl
      omega
    rw [this]
    rfl
  | f + 1, i, h => by
    have hi : i < s.data.toList.length := by
      rw [Array.length_toList]
      have : s.data.size = s.size := rfl
      omega
    have hx := bA_getElem (s := s) (i := i) (by omega)
    rw [List.drop_eq_getElem_cons hi, List.all_cons]
    unfold allD
    rw [allD_list hcs s f (i + 1) (by omega)]
    congr 1
    have h2 : s.data.toList[i] = s.data.getD i 0 := by
      rw [List.getElem?_eq_getElem hi] at hx
      exact Option.some.inj hx
    have h3 := hcs ⟨bA s i, bA_lt s i⟩
    rw [h2, ← h3]
    unfold bA
    simp
theorem inAll_dig (s : ByteArray) : inAll s tDig = allD 10 s s.size 0 := by
  rw [allD_list dig_all s s.size 0 (by omega), List.drop_zero]
  rfl
theorem inAll_hex (s : ByteArray) : inAll s tHex = allD 16 s s.size 0 := by
  rw [allD_list hex_all s s.size 0 (by omega), List.drop_zero]
  rfl
theorem dec_val (s : ByteArray) : ∀ (f i n : Nat), i + f = s.size → allD 10 s f i = true → Lib.decFrom n (s.data.toList.drop i) = some (valN s 10 f i n)
  | 0, i, n, h, _ => by
    have : s.data.toList.drop i = [] := by
      rw [List.drop_eq_nil_iff, Array.length_toList]
      have : s.data.size = s.size := rfl
      omega
    rw [this]
    rfl
  | f + 1, i, n, h, ha => by
    have hi : i < s.data.toList.length := by
      rw [Array.length_toList]
      have : s.data.size = s.size := rfl
      omega
    have hx := bA_getElem (s := s) (i := i) (by omega)
    have h2 : s.data.toList[i] = s.data.getD i 0 := by
      rw [List.getElem?_eq_getElem hi] at hx
      exact Option.some.inj hx
    unfold allD at ha
    rw [Bool.and_eq_true] at ha
    have hd : Lib.digitVal (s.data.getD i 0) = digV 10 (bA s i) := by
      unfold Lib.digitVal digV
      change (if 48 ≤ bA s i ∧ bA s i ≤ 57 then some (bA s i - 48) else none) = _
      split
      · rw [if_pos (by omega)]
      · split
        · rw [if_neg (by omega)]
        · rfl
    rw [List.drop_eq_getElem_cons hi, h2]
    unfold Lib.decFrom valN
    rw [hd]
    cases hv : digV 10 (bA s i) with
    | none => rw [hv] at ha; exact absurd ha.1 (by simp)
    | some d => exact dec_val s f (i + 1) _ (by omega) ha.2
theorem atoi_val {s : ByteArray} (h1 : 1 ≤ s.size) (ha : allD 10 s s.size 0 = true) : Lib.atoi s.data.toList = some (valN s 10 s.size 0 0 : Nat) := by
  have h := dec_val s s.size 0 0 (by omega) ha
  rw [List.drop_zero] at h
  have hg := bA_getElem (s := s) (i := 0) (by omega)
  have h0 := allD_get ha 0 (by omega)
  rw [digV_ten] at h0
  simp only [Nat.add_zero] at h0
  cases hl : s.data.toList with
  | nil => rw [hl] at hg; cases hg
  | cons b r =>
    rw [hl] at hg h
    simp only [List.getElem?_cons_zero, Option.some.injEq] at hg
    have hb : b.toNat = bA s 0 := by rw [hg]; rfl
    have hr : 48 ≤ b.toNat := by
      rw [hb]
      unfold digitB at h0
      simp only [Bool.and_eq_true, decide_eq_true_eq] at h0
      omega
    have n1 : (b == 45) = false := by
      rw [beq_eq_false_iff_ne]
      rintro rfl
      exact absurd hr (by decide)
    have n2 : (b == 43) = false := by
      rw [beq_eq_false_iff_ne]
      rintro rfl
      exact absurd hr (by decide)
    unfold Lib.atoi
    simp only [n1, n2, if_false, Bool.false_eq_true]
    unfold Lib.decNat
    simp only [List.isEmpty_cons, if_false, Bool.false_eq_true, h, Option.map_some]
    rfl
theorem ix_sign : ∀ x : Fin 256, (decide (0 ≤ Lib.indexByte [59, 44, 46, 58, 61, 42, 45, 43, 40, 41] (UInt8.ofNat x.val))) = signB x.val := by decide
noncomputable def c192 := ctr (fun a : ByteArray × Nat => True) (fun a => [.str a.1, .int .u8 a.2]) (fun a => (false, .int .i64 (Lib.indexByte a.1.data.toList (a.2 : Int).toNat.toUInt8)))
theorem inj_su {β : Type} (out : ByteArray × Nat → β) : ∀ a b : ByteArray × Nat, ([V.str a.1, .int .u8 a.2] : List V) = [.str b.1, .int .u8 b.2] → out a = out b := by
  rintro ⟨a, i⟩ ⟨b, j⟩ h
  simp at h
  have : i = j := by omega
  rw [h.1, this]
theorem c192_eq (s : ByteArray) (c : Nat) : c192 [.str s, .int .u8 c] = some (false, .int .i64 (Lib.indexByte s.data.toList (c : Int).toNat.toUInt8)) := ctr_eq (inj_su _) (s, c) trivial rfl
theorem c192_ok : COK Tryz.prog (192, c192) := ctr_ok fun a _ => f192_ok a.1 a.2
noncomputable def c236 := ctr (fun s : ByteArray => (1 ≤ s.size ∧ s.size ≤ 18) ∧ allD 10 s s.size 0 = true) (fun s => [.str s]) (fun s => (false, .tup [.int .i64 (valN s 10 s.size 0 0 : Nat), .nili]))
theorem c236_eq (s : ByteArray) (h1 : 1 ≤ s.size) (h2 : s.size ≤ 18) (h : allD 10 s s.size 0 = true) : c236 [.str s] = some (false, .tup [.int .i64 (valN s 10 s.size 0 0 : Nat), .nili]) := ctr_eq (by simp) s ⟨⟨h1, h2⟩, h⟩ rfl
theorem c236_ok : COK Tryz.prog (236, c236) := ctr_ok fun s h => f236_ok s _ h.1.2 (atoi_val h.1.1 h.2)
end Go.TM.Tryz
end
section
set_option maxHeartbeats 16000000
set_option maxRecDepth 20000
namespace Go.TM.Tryz
open Go Go.TM Go.Proofs
theorem f290_ok (x : Nat) (h0 : 65 ≤ x) (h1 : x ≤ 70) : FunOK Tryz.prog 290 [.int .u8 x] false (.int .u8 ((x + 32 : Nat) : Int)) := by
  refine fun_ok (mkE_ok zmix (cl := []) (gl := []) [] trivial trivial) Tryz.func290 (by kernel_rfl) ?_
  refine FunW_run _ _ rfl rfl ?_
  have key : ∀ m : Fin 6, IntKind.u8.wrap ((((65 + m.val) % 2 ^ IntKind.u8.bits ||| 32 % 2 ^ IntKind.u8.bits : Nat)) : Int) = ((65 + m.val : Nat) : Int) + 32 := by decide
  have k := key ⟨x - 65, by omega⟩
  simp only [show 65 + (x - 65) = x by omega] at k
  simp [k]
noncomputable def c290 := ctr (fun x : Nat => 65 ≤ x ∧ x ≤ 70) (fun x => [.int .u8 x]) (fun x => (false, .int .u8 ((x + 32 : Nat) : Int)))
theorem c290_eq (x : Nat) (h0 : 65 ≤ x) (h1 : x ≤ 70) : c290 [.int .u8 x] = some (false, .int .u8 ((x + 32 : Nat) : Int)) := ctr_eq (inj_u8 _) x ⟨h0, h1⟩ rfl
theorem c290_ok : COK Tryz.prog (290, c290) := ctr_ok fun n h => f290_ok n h.1 h.2
theorem u64_small {n : Int} (h0 : 0 ≤ n) (h1 : n < 18446744073709551616) : IntKind.u64.wrap n = n := by
  have : IntKind.u64.wrap n = n % 18446744073709551616 := by simp [IntKind.wrap, IntKind.bits, IntKind.signed]
  rw [this]
  omega
theorem f281_ok (s : ByteArray) (h1 : 1 ≤ s.size) (h7 : s.size ≤ 7) (ha : allD 16 s s.size 0 = true) : FunOK Tryz.prog 281 [.str s, .int .i64 16, .int .i64 64] false (.tup [.int .u64 (valN s 16 s.size 0 0 : Nat), .nili]) := by
  refine fun_ok (mkE_ok zmix (cl := [(290, c290)]) (gl := []) [] c290_ok trivial) Tryz.func281 (by kernel_rfl) ?_
  refine FunW_run _ _ rfl rfl ?_
  have he : ¬ s = ⟨#[]⟩ := fun e => by rw [e] at h1; exact absurd h1 (by decide)
  have hlen := ba_len s
  have hsz : s.size ≤ 1000000000 := by omega
  generalize hT : valN s 16 s.size 0 0 = T
  have w1 : IntKind.u64.wrap 64 = 64 := u64_small (by omega) (by omega)
  have w2 : IntKind.u64.wrap (2 ^ (min 64 IntKind.u64.bits)) = 0 := by decide
  have w3 : IntKind.u64.wrap (0 - 1) = 18446744073709551615 := by decide
  have w4 : IntKind.u64.wrap (-1) = 18446744073709551615 := by decide
  simp [he, hsz, w1, w2, w3, w4]
  refine lp_ind (fun d t => ∃ (i n : Nat), d + i = s.size ∧ t.e 0 = .str s ∧ t.e 1 = .int .i64 16 ∧ t.e 8 = .bool false ∧ t.e 9 = .str s ∧ t.e 10 = .int .u64 1152921504606846976 ∧ t.e 11 = .int .u64 18446744073709551615 ∧ t.e 12 = .bool false ∧ t.e 13 = .int .u64 n ∧ t.e 99 = .lst (s.data.toList.map fun b => .int .u8 b.toNat) ∧ t.e 100 = .int .i64 s.size ∧ t.e 101 = .int .i64 i ∧ allD 16 s d i = true ∧ n < 16 ^ i ∧ valN s 16 d i n = T) s.size ⟨0, 0, rfl, by simp, by simp, by simp, by simp, by simp, by simp, by simp, by simp, by simp, by simp <;> rfl, by simp, ha, by simp, hT⟩ ?_
  rintro c' L hL d t ih ⟨i, n, hdi, g0, g1, g8, g9, g10, g11, g12, g13, g99, g100, g101, hal, hn, hr⟩
  cases d with
  | zero =>
    have hi' : ¬ (i : Int) < s.size := by omega
    simp only [valN] at hr
    subst hr
    simp [g0, g1, g8, g9, g10, g11, g12, g13, g99, g100, g101, hL, hi']
  | succ d =>
    have hi : i < s.size := by omega
    have hi' : (i : Int) < s.size := by omega
    have hx := bA_getElem hi
    have hb : (s.data.getD i 0).toNat = bA s i := rfl
    have hlt := bA_lt s i
    unfold allD at hal
    rw [Bool.and_eq_true] at hal
    obtain ⟨hal1, hal2⟩ := hal
    unfold valN at hr
    generalize s.data.getD i 0 = b at *
    generalize bA s i = x at *
    cases hd : digV 16 x with
    | none => rw [hd] at hal1; cases hal1
    | some v =>
      rw [hd] at hr
      simp only [Option.getD_some] at hr
      have hvl := digV_lt hd
      have hpow : 16 ^ i ≤ 16 ^ 6 := Nat.pow_le_pow_right (by omega) (by omega)
      have wi : IntKind.i64.wrap ((i : Int) + 1) = ((i + 1 : Nat) : Int) := (wrap64 (by omega) (by omega)).trans (by omega)
      obtain ⟨N, hN⟩ : ∃ N, N = n * 16 + v := ⟨_, rfl⟩
      have wv : IntKind.u64.wrap (v : Int) = (v : Int) := u64_small (by omega) (by omega)
      have w16 : IntKind.u64.wrap 16 = 16 := u64_small (by omega) (by omega)
      have w16b : IntKind.u8.wrap 16 = 16 := wrapU8 (by omega) (by omega)
      have wm : IntKind.u64.wrap ((n : Int) * 16) = ((n * 16 : Nat) : Int) := (u64_small (by omega) (by omega)).trans (by omega)
      obtain ⟨Y, hY⟩ : ∃ Y, Y = n * 16 := ⟨_, rfl⟩
      rw [← hY] at wm
      have wa : IntKind.u64.wrap ((Y : Int) + (v : Int)) = (N : Int) := (u64_small (by omega) (by omega)).trans (by omega)
      have c1 : ¬ (1152921504606846976 : Int) ≤ n := by omega
      have c2 : ¬ (N : Int) < Y := by omega
      have c3 : ¬ (18446744073709551615 : Int) < N := by omega
      have c4 : ¬ (16 : Int) ≤ v := by omega
      have c5 : ¬ (x : Int) = 95 := by
        intro h
        have : x = 95 := by omega
        rw [this] at hd
        revert hd
        simp [digV]
      have hN' : n * 16 + v = N := hN.symm
      rw [hN'] at hr
      have fin : ∀ t' : S, t'.e 0 = .str s → t'.e 1 = .int .i64 16 → t'.e 8 = .bool false → t'.e 9 = .str s → t'.e 10 = .int .u64 1152921504606846976 → t'.e 11 = .int .u64 18446744073709551615 → t'.e 12 = .bool false → t'.e 13 = .int .u64 N → t'.e 99 = .lst (s.data.toList.map fun b => .int .u8 b.toNat) → t'.e 100 = .int .i64 s.size → t'.e 101 = .int .i64 ((i + 1 : Nat) : Int) → L t' := by
        intro t' k0 k1 k8 k9 k10 k11 k12 k13 k99 k100 k101
        refine ih d t' (by omega) ⟨i + 1, N, by omega, k0, k1, k8, k9, k10, k11, k12, k13, k99, k100, k101, hal2, ?_, hr⟩
        rw [Nat.pow_succ]
        omega
      by_cases hdg : 48 ≤ x ∧ x ≤ 57
      · have hv : v = x - 48 := by
          unfold digV at hd
          rw [if_pos hdg, if_pos (by omega)] at hd
          cases hd
          rfl
        have a1 : (48 : Int) ≤ x := by omega
        have a2 : (x : Int) ≤ 57 := by omega
        have ws : IntKind.u8.wrap ((x : Int) - 48) = (v : Int) := (wrapU8 (by omega) (by omega)).trans (by omega)
        simp [-getElem?_pos, gcz, gcs, g0, g1, g8, g9, g10, g11, g12, g13, g99, g100, g101, hL, hi', hx, hb, hlen ▸ hi, c5, a1, a2, ws, w16, w16b, wm, wa, wv, c1, c2, c3, c4, wi]
        refine fin _ ?_ ?_ ?_ ?_ ?_ ?_ ?_ ?_ ?_ ?_ ?_ <;> simp [g0, g1, g8, g9, g10, g11, g12, g13, g99, g100, g101, wi]
      · have hdh : 65 ≤ x ∧ x ≤ 70 := by
          unfold digV at hd
          rw [if_neg hdg] at hd
          split at hd
          · assumption
          · cases hd
        have hv : v = x - 55 := by
          unfold digV at hd
          rw [if_neg hdg, if_pos hdh, if_pos (by omega)] at hd
          cases hd
          rfl
        have e290 := c290_eq x hdh.1 hdh.2
        obtain ⟨z, hz⟩ : ∃ z, z = x + 32 := ⟨_, rfl⟩
        rw [← hz] at e290
        have a1 : (48 : Int) ≤ x := by omega
        have a2 : ¬ (x : Int) ≤ 57 := by omega
        have a3 : (97 : Int) ≤ z := by omega
        have a4 : (z : Int) ≤ 122 := by omega
        have ws : IntKind.u8.wrap ((z : Int) - 97) = (z : Int) - 97 := wrapU8 (by omega) (by omega)
        have ws2 : IntKind.u8.wrap ((z : Int) - 97 + 10) = (v : Int) := (wrapU8 (by omega) (by omega)).trans (by omega)
        simp [-getElem?_pos, gcz, gcs, g0, g1, g8, g9, g10, g11, g12, g13, g99, g100, g101, hL, hi', hx, hb, hlen ▸ hi, c5, a1, a2, a3, a4, e290, ws, ws2, w16, w16b, wm, wa, wv, c1, c2, c3, c4, wi]
        refine fin _ ?_ ?_ ?_ ?_ ?_ ?_ ?_ ?_ ?_ ?_ ?_ <;> simp [g0, g1, g8, g9, g10, g11, g12, g13, g99, g100, g101, wi]
noncomputable def c281 := ctr (fun s : ByteArray => (1 ≤ s.size ∧ s.size ≤ 7) ∧ allD 16 s s.size 0 = true) (fun s => [.str s, .int .i64 16, .int .i64 64]) (fun s => (false, .tup [.int .u64 (valN s 16 s.size 0 0 : Nat), .nili]))
theorem c281_eq (s : ByteArray) (h1 : 1 ≤ s.size) (h2 : s.size ≤ 7) (h : allD 16 s s.size 0 = true) : c281 [.str s, .int .i64 16, .int .i64 64] = some (false, .tup [.int .u64 (valN s 16 s.size 0 0 : Nat), .nili]) := ctr_eq (by simp) s ⟨⟨h1, h2⟩, h⟩ rfl
theorem c281_ok : COK Tryz.prog (281, c281) := ctr_ok fun s h => f281_ok s h.1.1 h.1.2 h.2
theorem f262_ok (s : ByteArray) (h1 : 1 ≤ s.size) (h7 : s.size ≤ 7) (ha : allD 16 s s.size 0 = true) (hd : digitB (bA s 0) = true) : FunOK Tryz.prog 262 [.str s, .int .i64 16, .int .i64 64] false (.tup [.int .i64 (valN s 16 s.size 0 0 : Nat), .nili]) := by
  refine fun_ok (mkE_ok zmix (cl := [(281, c281)]) (gl := []) [] c281_ok trivial) Tryz.func262 (by kernel_rfl) ?_
  refine FunW_run _ _ rfl rfl ?_
  have he : ¬ s = ⟨#[]⟩ := fun e => by rw [e] at h1; exact absurd h1 (by decide)
  have hp : 0 < s.size := h1
  have hg0 := bA_get hp
  have e281 := c281_eq s h1 h7 ha
  have hlt := valN_lt (s := s) (base := 16) (by omega) s.size 0 0 0 (by simp)
  have hpow : 16 ^ (0 + s.size) ≤ 16 ^ 7 := Nat.pow_le_pow_right (by omega) (by omega)
  have hdb : 48 ≤ bA s 0 := by
    unfold digitB at hd
    simp only [Bool.and_eq_true, decide_eq_true_eq] at hd
    omega
  generalize valN s 16 s.size 0 0 = T at *
  generalize bA s 0 = x at *
  have b1 : ¬ (x : Int) = 43 := by omega
  have b2 : ¬ (x : Int) = 45 := by omega
  have w1 : IntKind.i64.wrap (64 - 1) = 63 := by decide
  have w1b : IntKind.i64.wrap 63 = 63 := by decide
  have w2 : IntKind.u64.wrap 63 = 63 := by decide
  have w3 : IntKind.u64.wrap (2 ^ (min 63 IntKind.u64.bits)) = 9223372036854775808 := by decide
  have b3 : ¬ (9223372036854775808 : Int) ≤ T := by omega
  have w4 : IntKind.i64.wrap (T : Int) = T := wrap64 (by omega) (by omega)
  simp [he, hp, hg0, b1, b2, e281, w1, w1b, w2, w3, b3, w4]
noncomputable def c262 := ctr (fun s : ByteArray => ((1 ≤ s.size ∧ s.size ≤ 7) ∧ allD 16 s s.size 0 = true) ∧ digitB (bA s 0) = true) (fun s => [.str s, .int .i64 16, .int .i64 64]) (fun s => (false, .tup [.int .i64 (valN s 16 s.size 0 0 : Nat), .nili]))
theorem c262_eq (s : ByteArray) (h1 : 1 ≤ s.size) (h2 : s.size ≤ 7) (h : allD 16 s s.size 0 = true) (hd : digitB (bA s 0) = true) : c262 [.str s, .int .i64 16, .int .i64 64] = some (false, .tup [.int .i64 (valN s 16 s.size 0 0 : Nat), .nili]) := ctr_eq (by simp) s ⟨⟨⟨h1, h2⟩, h⟩, hd⟩ rfl
theorem c262_ok : COK Tryz.prog (262, c262) := ctr_ok fun s h => f262_ok s h.1.1.1 h.1.1.2 h.1.2 h.2
theorem f237_ok (s : ByteArray) (h1 : 1 ≤ s.size) (h7 : s.size ≤ 7) (ha : allD 16 s s.size 0 = true) (hd : digitB (bA s 0) = true) : FunOK Tryz.prog 237 [.str s, .int .i64 16, .int .i64 64] false (.tup [.int .i64 (valN s 16 s.size 0 0 : Nat), .nili]) := by
  refine fun_ok (mkE_ok zmix (cl := [(262, c262)]) (gl := []) [] c262_ok trivial) Tryz.func237 (by kernel_rfl) ?_
  refine FunW_run _ _ rfl rfl ?_
  have e262 := c262_eq s h1 h7 ha hd
  simp [e262]
noncomputable def c237 := ctr (fun s : ByteArray => ((1 ≤ s.size ∧ s.size ≤ 7) ∧ allD 16 s s.size 0 = true) ∧ digitB (bA s 0) = true) (fun s => [.str s, .int .i64 16, .int .i64 64]) (fun s => (false, .tup [.int .i64 (valN s 16 s.size 0 0 : Nat), .nili]))
theorem c237_eq (s : ByteArray) (h1 : 1 ≤ s.size) (h2 : s.size ≤ 7) (h : allD 16 s s.size 0 = true) (hd : digitB (bA s 0) = true) : c237 [.str s, .int .i64 16, .int .i64 64] = some (false, .tup [.int .i64 (valN s 16 s.size 0 0 : Nat), .nili]) := ctr_eq (by simp) s ⟨⟨⟨h1, h2⟩, h⟩, hd⟩ rfl
theorem c237_ok : COK Tryz.prog (237, c237) := ctr_ok fun s h => f237_ok s h.1.1.1 h.1.1.2 h.1.2 h.2
end Go.TM.Tryz
end
section
set_option maxHeartbeats 16000000
set_option maxRecDepth 20000
namespace Go.TM.Tryz
open Go Go.TM Go.Proofs
theorem inB_dec (n l h : Nat) : inB (n : Int) (l : Int) (h : Int) = decide (l ≤ n ∧ n ≤ h) := by
  unfold inB
  rw [Bool.eq_iff_iff]
  simp
theorem asc {cs : ByteArray} (h : (cs.data.toList.all fun b => decide (b.toNat < 128)) = true) : ∀ (j : Nat) b, cs.data.toList[j]? = some b → b.toNat < 128 := fun j b hb => by
  have := List.all_eq_true.1 h b (List.mem_of_getElem? hb)
  simpa using this
theorem allD_congr {base : Nat} {s t : ByteArray} : ∀ (f i : Nat), (∀ j, i ≤ j → j < i + f → bA s j = bA t j) → allD base s f i = allD base t f i
  | 0, i, _ => rfl
  | f + 1, i, h => by
    unfold allD
    rw [h i (Nat.le_refl _) (by omega), allD_congr f (i + 1) (fun j h1 h2 => h j (by omega) (by omega))]
theorem valN_congr {base : Nat} {s t : ByteArray} : ∀ (f i n : Nat), (∀ j, i ≤ j → j < i + f → bA s j = bA t j) → valN s base f i n = valN t base f i n
  | 0, i, n, _ => rfl
  | f + 1, i, n, h => by
    unfold valN
    rw [h i (Nat.le_refl _) (by omega), valN_congr f (i + 1) _ (fun j h1 h2 => h j (by omega) (by omega))]
theorem ba_one_eq {a : ByteArray} {c : UInt8} : a = ⟨#[c]⟩ ↔ a.size = 1 ∧ bA a 0 = c.toNat := by
  constructor
  · rintro rfl
    exact ⟨rfl, rfl⟩
  · rintro ⟨h1, h2⟩
    obtain ⟨⟨l⟩⟩ := a
    match l, h1 with
    | [x], _ =>
      have : x.toNat = c.toNat := h2
      have : x = c := UInt8.toNat_inj.1 this
      rw [this]
theorem suf_H (s : ByteArray) : sufB s ⟨#[72]⟩ = decide (1 ≤ s.size ∧ bA s (s.size - 1) = 72) := by
  unfold sufB
  have hz : (⟨#[72]⟩ : ByteArray).size = 1 := rfl
  rw [hz]
  by_cases h : 1 ≤ s.size
  · have e : (s.extract (s.size - 1) s.size = ⟨#[72]⟩) ↔ bA s (s.size - 1) = 72 := by
      rw [ba_one_eq, extract_sz s (Nat.le_refl _), bA_extract (Nat.le_refl _) (by omega)]
      constructor
      · rintro ⟨_, h2⟩
        simpa using h2
      · intro h2
        exact ⟨by omega, by simpa using h2⟩
    rw [Bool.eq_iff_iff]
    simp only [Bool.and_eq_true, decide_eq_true_eq, e]
  · simp [h]
theorem f195_ok (s : ByteArray) (hs : s.size ≤ 1000000000) : FunOK Tryz.prog 195 [.str s] false (.tup [.int .i64 (((numI s).getD 0 : Nat) : Int), .bool (numI s).isSome]) := by
  refine fun_ok (mkE_ok zmix (cl := [(234, c234), (68, c68), (235, c235), (236, c236), (158, c158), (237, c237)]) (gl := []) [] ⟨c234_ok, c68_ok, c235_ok, c236_ok, c158_ok, c237_ok⟩ trivial) Tryz.func195 (by kernel_rfl) ?_
  refine FunW_run _ _ rfl rfl ?_
  have e234 := c234_eq s ⟨#[72]⟩ hs (by decide)
  have hHs0 : cutS s ⟨#[72]⟩ = if sufB s ⟨#[72]⟩ = true then s.extract 0 (s.size - 1) else s := rfl
  have hHsz : (cutS s ⟨#[72]⟩).size ≤ 1000000000 := by
    rw [hHs0]
    split
    · rw [extract_sz s (by omega)]
      omega
    · exact hs
  have hHs : sufB s ⟨#[72]⟩ = true → (cutS s ⟨#[72]⟩).size = s.size - 1 ∧ allD 16 (cutS s ⟨#[72]⟩) (cutS s ⟨#[72]⟩).size 0 = allD 16 s (s.size - 1) 0 ∧ valN (cutS s ⟨#[72]⟩) 16 (cutS s ⟨#[72]⟩).size 0 0 = valN s 16 (s.size - 1) 0 0 ∧ (0 < (cutS s ⟨#[72]⟩).size → bA (cutS s ⟨#[72]⟩) 0 = bA s 0) := by
    intro h
    rw [hHs0, if_pos h]
    have hz : (s.extract 0 (s.size - 1)).size = s.size - 1 := by rw [extract_sz s (by omega)]; omega
    have hb : ∀ j, 0 ≤ j → j < 0 + (s.size - 1) → bA (s.extract 0 (s.size - 1)) j = bA s j := fun j _ hj => by rw [bA_extract (by omega) (by omega)]; simp
    rw [hz]
    exact ⟨rfl, allD_congr _ _ hb, valN_congr _ _ _ hb, fun h0 => hb 0 (Nat.le_refl _) (by omega)⟩
  have e68 := c68_eq s.size 1 9
  have hsuf := suf_H s
  have e68h := c68_eq (cutS s ⟨#[72]⟩).size 1 7
  have e235 : c235 [.str s, .str ⟨#[48, 49, 50, 51, 52, 53, 54, 55, 56, 57]⟩] = some (false, .bool (allD 10 s s.size 0)) := by
    rw [← inAll_dig]
    exact c235_eq s tDig hs (by decide) (asc (by decide))
  have e235h : c235 [.str (cutS s ⟨#[72]⟩), .str ⟨#[48, 49, 50, 51, 52, 53, 54, 55, 56, 57, 65, 66, 67, 68, 69, 70]⟩] = some (false, .bool (allD 16 (cutS s ⟨#[72]⟩) (cutS s ⟨#[72]⟩).size 0)) := by
    rw [← inAll_hex]
    exact c235_eq _ tHex hHsz (by decide) (asc (by decide))
  have e236 : (1 ≤ s.size ∧ s.size ≤ 9) → allD 10 s s.size 0 = true → c236 [.str s] = some (false, .tup [.int .i64 (valN s 10 s.size 0 0 : Nat), .nili]) := fun h1 h2 => c236_eq s h1.1 (by omega) h2
  have e237 : ∀ h1 : 1 ≤ (cutS s ⟨#[72]⟩).size ∧ (cutS s ⟨#[72]⟩).size ≤ 7, allD 16 (cutS s ⟨#[72]⟩) (cutS s ⟨#[72]⟩).size 0 = true → digitB (bA (cutS s ⟨#[72]⟩) 0) = true → c237 [.str (cutS s ⟨#[72]⟩), .int .i64 16, .int .i64 64] = some (false, .tup [.int .i64 (valN (cutS s ⟨#[72]⟩) 16 (cutS s ⟨#[72]⟩).size 0 0 : Nat), .nili]) := fun h1 h2 h3 => c237_eq _ h1.1 h1.2 h2 h3
  have hi9 : inB (s.size : Int) 1 9 = decide (1 ≤ s.size ∧ s.size ≤ 9) := inB_dec s.size 1 9
  have hi7 : inB ((cutS s ⟨#[72]⟩).size : Int) 1 7 = decide (1 ≤ (cutS s ⟨#[72]⟩).size ∧ (cutS s ⟨#[72]⟩).size ≤ 7) := inB_dec _ 1 7
  rw [hi9] at e68
  rw [hi7] at e68h
  rw [hsuf] at e234 hHs
  unfold numI
  generalize cutS s ⟨#[72]⟩ = H at *
  clear hHs0 hi9 hi7
  have second : ¬ ((1 ≤ s.size ∧ s.size ≤ 9) ∧ allD 10 s s.size 0 = true) → ∀ G : Prop, True := fun _ _ => trivial
  by_cases hA : (1 ≤ s.size ∧ s.size ≤ 9) ∧ allD 10 s s.size 0 = true
  · rw [if_pos hA]
    rw [decide_eq_true hA.1] at e68
    have e := e236 hA.1 hA.2
    rw [hA.2] at e235
    simp [e234, e68, e235, e]
  · rw [if_neg hA]
    have hA2 : (1 ≤ s.size ∧ s.size ≤ 9) → allD 10 s s.size 0 = false := fun h => by
      cases h2 : allD 10 s s.size 0 with
      | true => exact absurd ⟨h, h2⟩ hA
      | false => rfl
    by_cases hsf : 1 ≤ s.size ∧ bA s (s.size - 1) = 72
    · obtain ⟨hH1, hH2, hH3, hH4⟩ := hHs (decide_eq_true hsf)
      rw [decide_eq_true hsf] at e234
      rw [← hH2, ← hH3, ← hH1]
      by_cases h7 : 1 ≤ H.size ∧ H.size ≤ 7
      · have hp : 0 < H.size := by omega
        have hgp := bA_get hp
        rw [hH4 hp] at hgp
        rw [decide_eq_true h7] at e68h
        cases h16 : allD 16 H H.size 0 with
        | false =>
          rw [h16] at e235h
          rw [if_neg (fun h => by exact absurd h.1.2.2 (by simp))]
          by_cases h9 : 1 ≤ s.size ∧ s.size ≤ 9
          · rw [decide_eq_true h9] at e68
            rw [hA2 h9] at e235
            simp [e234, e68, e235, e68h, e235h, c158_eq]
          · rw [decide_eq_false h9] at e68
            simp [e234, e68, e235, e68h, e235h, c158_eq]
        | true =>
          rw [h16] at e235h
          cases hd : digitB (bA s 0) with
          | false =>
            rw [if_neg (fun h => by exact absurd h.2 (by simp))]
            by_cases h9 : 1 ≤ s.size ∧ s.size ≤ 9
            · rw [decide_eq_true h9] at e68
              rw [hA2 h9] at e235
              simp [e234, e68, e235, e68h, e235h, c158_eq, hp, hgp, hd]
            · rw [decide_eq_false h9] at e68
              simp [e234, e68, e235, e68h, e235h, c158_eq, hp, hgp, hd]
          | true =>
            have e := e237 h7 h16 (by rw [hH4 hp]; exact hd)
            rw [if_pos ⟨⟨by rw [hH1]; exact hsf, h7, rfl⟩, rfl⟩]
            by_cases h9 : 1 ≤ s.size ∧ s.size ≤ 9
            · rw [decide_eq_true h9] at e68
              rw [hA2 h9] at e235
              simp [e234, e68, e235, e68h, e235h, c158_eq, hp, hgp, hd, e]
            · rw [decide_eq_false h9] at e68
              simp [e234, e68, e235, e68h, e235h, c158_eq, hp, hgp, hd, e]
      · rw [if_neg (fun h => h7 h.1.2.1)]
        rw [decide_eq_false h7] at e68h
        by_cases h9 : 1 ≤ s.size ∧ s.size ≤ 9
        · rw [decide_eq_true h9] at e68
          rw [hA2 h9] at e235
          simp [e234, e68, e235, e68h, e235h, c158_eq]
        · rw [decide_eq_false h9] at e68
          simp [e234, e68, e235, e68h, e235h, c158_eq]
    · rw [if_neg (fun h => hsf h.1.1)]
      rw [decide_eq_false hsf] at e234
      by_cases h9 : 1 ≤ s.size ∧ s.size ≤ 9
      · rw [decide_eq_true h9] at e68
        rw [hA2 h9] at e235
        simp [e234, e68, e235, e68h, e235h, c158_eq]
      · rw [decide_eq_false h9] at e68
        simp [e234, e68, e235, e68h, e235h, c158_eq]
noncomputable def c195 := ctr (fun s : ByteArray => s.size ≤ 1000000000) (fun s => [.str s]) (fun s => (false, .tup [.int .i64 (((numI s).getD 0 : Nat) : Int), .bool (numI s).isSome]))
theorem c195_eq (s : ByteArray) (h : s.size ≤ 1000000000) : c195 [.str s] = some (false, .tup [.int .i64 (((numI s).getD 0 : Nat) : Int), .bool (numI s).isSome]) := ctr_eq (by simp) s h rfl
theorem c195_ok : COK Tryz.prog (195, c195) := ctr_ok fun n h => f195_ok n h
end Go.TM.Tryz
end
section
set_option maxHeartbeats 16000000
set_option maxRecDepth 20000
namespace Go.TM.Tryz
open Go Go.TM Go.Proofs
theorem f193_ok (s : ByteArray) (hs : s.size ≤ 1000000000) : FunOK Tryz.prog 193 [.str s] false (.int .i64 (wl s s.size 0)) := by
  refine fun_ok (mkE_ok zmix (cl := [(157, c157), (158, c158)]) (gl := []) [] ⟨c157_ok, c158_ok⟩ trivial) Tryz.func193 (by kernel_rfl) ?_
  refine FunW_run _ _ rfl rfl ?_
  generalize hE : wl s s.size 0 = E
  simp
  refine lp_ind (fun d t => ∃ j : Nat, d + j = s.size ∧ t.e 0 = .str s ∧ t.e 3 = .int .i64 j ∧ wl s d j = E) s.size ⟨0, rfl, by simp, by simp, hE⟩ ?_
  rintro c' L hL d t ih ⟨j, hdj, g0, g3, hwl⟩
  cases d with
  | zero =>
    have hj' : ¬ (j : Int) < s.size := by omega
    simp only [wl] at hwl
    subst hwl
    simp [g0, g3, hL, hj', c157_eq, c158_eq]
  | succ d =>
    have hj : j < s.size := by omega
    have hj' : (j : Int) < s.size := by omega
    have hgj := bA_get hj
    have w2 : IntKind.i64.wrap ((j : Int) + 1) = ((j + 1 : Nat) : Int) := (wrap64 (by omega) (by omega)).trans (by omega)
    unfold wl at hwl
    unfold alnB at hwl
    generalize bA s j = y at *
    cases hl : letterB y with
    | true =>
      rw [if_pos ⟨hj, by simp [hl]⟩] at hwl
      simp [g0, g3, hL, hj, hj', hgj, c157_eq, c158_eq, hl]
      exact ih d _ (by omega) ⟨j + 1, by omega, by simp [g0], by simp [w2], hwl⟩
    | false =>
      cases hd : digitB y with
      | true =>
        rw [if_pos ⟨hj, by simp [hl, hd]⟩] at hwl
        simp [g0, g3, hL, hj, hj', hgj, c157_eq, c158_eq, hl, hd]
        exact ih d _ (by omega) ⟨j + 1, by omega, by simp [g0], by simp [w2], hwl⟩
      | false =>
        rw [if_neg (fun h => by simp [hl, hd] at h)] at hwl
        subst hwl
        simp [g0, g3, hL, hj, hj', hgj, c157_eq, c158_eq, hl, hd]
noncomputable def c193 := ctr (fun s : ByteArray => s.size ≤ 1000000000) (fun s => [.str s]) (fun s => (false, .int .i64 (wl s s.size 0)))
theorem c193_eq (s : ByteArray) (h : s.size ≤ 1000000000) : c193 [.str s] = some (false, .int .i64 (wl s s.size 0)) := ctr_eq (by simp) s h rfl
theorem c193_ok : COK Tryz.prog (193, c193) := ctr_ok fun n h => f193_ok n h
theorem f194_ok (s : ByteArray) : FunOK Tryz.prog 194 [.str s] false (.bool (hasB words15 s)) := by
  refine fun_ok (mkE_ok zmix (cl := [(118, c118)]) (gl := []) [] c118_ok trivial) Tryz.func194 (by kernel_rfl) ?_
  refine FunW_run _ _ rfl rfl ?_
  have e := c118_eq words15 s (by simp [words15, lim])
  generalize hasB words15 s = B at *
  simp only [words15, tW, List.map_cons, List.map_nil] at e
  simp [e]
  try rfl
noncomputable def c194 := ctr (fun _ : ByteArray => True) (fun s => [.str s]) (fun s => (false, .bool (hasB words15 s)))
theorem c194_eq (s : ByteArray) : c194 [.str s] = some (false, .bool (hasB words15 s)) := ctr_eq (by simp) s trivial rfl
theorem c194_ok : COK Tryz.prog (194, c194) := ctr_ok fun s _ => f194_ok s
theorem f147_ok (s : ByteArray) (h1 : 1 ≤ s.size) (hs : s.size ≤ 1000000000) : FunOK Tryz.prog 147 [.str s] false (.tup [(tokA s).1.v, .int .i64 (tokA s).2.1, .int .i64 (tokA s).2.2]) := by
  refine fun_ok (mkE_ok zmix (cl := [(192, c192), (193, c193), (194, c194), (158, c158), (195, c195)]) (gl := []) [] ⟨c192_ok, c193_ok, c194_ok, c158_ok, c195_ok⟩ trivial) Tryz.func147 (by kernel_rfl) ?_
  refine FunW_run _ _ rfl rfl ?_
  have hp : 0 < s.size := h1
  have hp' : (1 : Int) ≤ s.size := by omega
  have hg0 := bA_get hp
  have hlt := bA_lt s 0
  have e192 := c192_eq ⟨#[59, 44, 46, 58, 61, 42, 45, 43, 40, 41]⟩ (bA s 0)
  have hix := ix_sign ⟨bA s 0, hlt⟩
  have hix2 : (decide (0 ≤ Lib.indexByte [59, 44, 46, 58, 61, 42, 45, 43, 40, 41] ((bA s 0 : Nat) : Int).toNat.toUInt8)) = signB (bA s 0) := hix
  have hle := wl_le s s.size 0 (Nat.zero_le _)
  have e193 := c193_eq s hs
  have e194 := c194_eq (s.extract 0 (wl s s.size 0))
  have e195 := c195_eq (s.extract 0 (wl s s.size 0)) (by rw [extract_sz s hle.2]; omega)
  generalize hR : tokA s = R
  unfold tokA at hR
  change c192 [.str ⟨#[59, 44, 46, 58, 61, 42, 45, 43, 40, 41]⟩, .int .u8 (bA s 0)] = some (false, .int .i64 (Lib.indexByte [59, 44, 46, 58, 61, 42, 45, 43, 40, 41] ((bA s 0 : Nat) : Int).toNat.toUInt8)) at e192
  generalize Lib.indexByte [59, 44, 46, 58, 61, 42, 45, 43, 40, 41] ((bA s 0 : Nat) : Int).toNat.toUInt8 = z at *
  generalize wl s s.size 0 = n at *
  generalize hT : s.extract 0 n = T at *
  generalize bA s 0 = x at *
  have hn1 : n ≤ s.size := hle.2
  have hn2 : (n : Int) ≤ s.size := by omega
  have hz1 : (0 : Int) ≤ n := by omega
  cases hsg : signB x with
  | true =>
    rw [if_pos hsg] at hR
    subst hR
    rw [hsg, decide_eq_true_eq] at hix2
    simp [hp, hp', hg0, e192, hix2, h1]
  | false =>
    rw [if_neg (by simp [hsg])] at hR
    rw [hsg, decide_eq_false_iff_not] at hix2
    by_cases hn0 : n = 0
    · rw [if_pos hn0] at hR
      subst hR
      subst hn0
      simp [hp, hp', hg0, e192, hix2, e193, hT, Tok.zero]
    · have hn0' : ¬ (n : Int) = 0 := by omega
      rw [if_neg hn0] at hR
      cases hw : hasB words15 T with
      | true =>
        rw [if_pos hw] at hR
        rw [hw] at e194
        subst hR
        simp [hp, hp', hg0, e192, hix2, e193, hT, hn0, hn0', e194, hn1, hn2]
      | false =>
        rw [if_neg (by simp [hw])] at hR
        rw [hw] at e194
        cases hd : digitB x with
        | true =>
          rw [if_pos hd] at hR
          cases hv : numI T with
          | none =>
            rw [hv] at hR e195
            simp only at hR
            subst hR
            simp [hp, hp', hg0, e192, hix2, e193, hT, hn0, hn0', e194, hn1, hn2, c158_eq, hd, e195, Tok.zero]
          | some v =>
            rw [hv] at hR e195
            simp only at hR
            subst hR
            simp [hp, hp', hg0, e192, hix2, e193, hT, hn0, hn0', e194, hn1, hn2, c158_eq, hd, e195]
        | false =>
          rw [if_neg (by simp [hd])] at hR
          by_cases h10 : 10 < n
          · have h10' : (10 : Int) < n := by omega
            rw [if_pos h10] at hR
            subst hR
            simp [hp, hp', hg0, e192, hix2, e193, hT, hn0, hn0', e194, hn1, hn2, c158_eq, hd, h10, h10', Tok.zero]
          · have h10' : ¬ (10 : Int) < n := by omega
            rw [if_neg h10] at hR
            subst hR
            simp [hp, hp', hg0, e192, hix2, e193, hT, hn0, hn0', e194, hn1, hn2, c158_eq, hd, h10, h10']
noncomputable def c147 := ctr (fun s : ByteArray => 1 ≤ s.size ∧ s.size ≤ 1000000000) (fun s => [.str s]) (fun s => (false, .tup [(tokA s).1.v, .int .i64 (tokA s).2.1, .int .i64 (tokA s).2.2]))
theorem c147_eq (s : ByteArray) (h1 : 1 ≤ s.size) (h : s.size ≤ 1000000000) : c147 [.str s] = some (false, .tup [(tokA s).1.v, .int .i64 (tokA s).2.1, .int .i64 (tokA s).2.2]) := ctr_eq (by simp) s ⟨h1, h⟩ rfl
theorem c147_ok : COK Tryz.prog (147, c147) := ctr_ok fun n h => f147_ok n h.1 h.2
end Go.TM.Tryz
end
