/- A part of the proof: RA, RB, RI, WC, WB, WD, WE, WF, RC, RD, RE, RF. -/
import Derived.Test.YtknondpcbpgpoaaGreatK22
set_option linter.unusedVariables false
set_option linter.unusedSimpArgs false
section
set_option maxHeartbeats 8000000
set_option maxRecDepth 20000
namespace Go.TM.Tryz
open Go Go.TM Go.Proofs
structure SRd where
  at_:Nat
  bad:Bool
  place:Nat
@[simp] def sBox (b:ByteArray) (s:SRd):V:=.agg [.str b,.int .i64 s.at_,.bool s.bad,.int .i64 s.place]
def byteAt (b:ByteArray) (i:Nat):Nat:=(b.data.getD i 0).toNat
theorem byteAt_lt (b:ByteArray) (i:Nat):byteAt b i < 256:=by
  unfold byteAt
  exact UInt8.toNat_lt _
def byte1 (b:ByteArray) (s:SRd):Nat × SRd:=if s.bad=true ∨ b.size≤s.at_ then (0,⟨s.at_,true,s.place⟩) else (byteAt b s.at_,⟨s.at_ + 1,false,s.place⟩)
theorem wrapB (x:UInt8):IntKind.i64.wrap (x.toNat:Int)=x.toNat:=wrap64 (by omega) (by have:=UInt8.toNat_lt x;omega)
theorem f187_ok (b:ByteArray) (s:SRd) (hs:s.at_≤1048576):GenOK Tryz.prog 187 [.ptr 0 0] [sBox b s] ⟨false,.int .i64 (byte1 b s).1,[],[sBox b (byte1 b s).2]⟩:=by
  refine fun_okG (mkE_ok zmix (cl:=[]) (gl:=[]) [] trivial trivial) Tryz.func187 (by kernel_rfl) ?_
  refine FunG_run _ _ rfl rfl ?_
  obtain ⟨p,bad,pl⟩:=s
  simp only at hs
  have hw:IntKind.i64.wrap ((p:Int) + 1)=(p:Int) + 1:=wrap64 (by omega) (by omega)
  have hw2:IntKind.i64.wrap (p:Int)=(p:Int):=wrap64 (by omega) (by omega)
  cases bad with
  | true=>simp [byte1,pureOp]
  | false =>
    by_cases hp:b.size≤p
    · have h1:(b.size:Int)≤p:=by omega
      simp [byte1,hp,h1,pureOp]
    · have h1:¬ (b.size:Int)≤p:=by omega
      have h2:p < b.size:=by omega
      simp [byte1,hp,h1,h2,hw,hw2,byteAt,wrapB,pureOp]
end Go.TM.Tryz
end
section
set_option maxHeartbeats 8000000
set_option maxRecDepth 20000
namespace Go.TM.Tryz
open Go Go.TM Go.Proofs
def openI (n:Nat):Int:=if n % 2=0 then ((n / 2:Nat):Int) else -(((n + 1) / 2:Nat):Int)
def foldN (n:Int):Nat:=if n < 0 then (-2 * n - 1).toNat else (2 * n).toNat
theorem fold_open (n:Nat):foldN (openI n)=n:=by
  unfold openI foldN
  split
  · split
    · omega
    · omega
  · split
    · omega
    · omega
theorem tmod2 (n:Nat):(n:Int).tmod 2=((n % 2:Nat):Int):=by
  rw [Int.tmod_eq_emod_of_nonneg (by omega)]
  omega
theorem f231_ok (n:Nat) (h:n≤1099511627776):FunOK Tryz.prog 231 [.int .i64 n] false (.int .i64 (openI n)):=by
  refine fun_ok (mkE_ok zmix (cl:=[]) (gl:=[]) [] trivial trivial) Tryz.func231 (by kernel_rfl) ?_
  refine FunW_run _ _ rfl rfl ?_
  have w2:IntKind.i64.wrap ((n:Int) + 1)=(n:Int) + 1:=wrap64 (by omega) (by omega)
  have w3:IntKind.i64.wrap (-((n:Int) + 1))=-((n:Int) + 1):=wrap64 (by omega) (by omega)
  have w4:IntKind.i64.wrap ((n:Int) / 2)=(n:Int) / 2:=wrap64 (by omega) (by omega)
  have d2:((n:Int) + 1).tdiv 2=((n:Int) + 1) / 2:=Int.tdiv_eq_ediv_of_nonneg (by omega)
  have w5:IntKind.i64.wrap (-(((n:Int) + 1).tdiv 2))=-(((n:Int) + 1) / 2):=by rw [d2];exact wrap64 (by omega) (by omega)
  have m1:=tmod2 n
  have z0:IntKind.i64.wrap 0=0:=wrap64 (by omega) (by omega)
  have z1:IntKind.i64.wrap 1=1:=wrap64 (by omega) (by omega)
  rcases Nat.mod_two_eq_zero_or_one n with h0 | h0
  · rw [h0] at m1
    have m2:(n:Int).tmod 2=0:=m1
    simp [m2,z0,w4,openI,h0]
  · rw [h0] at m1
    have m2:(n:Int).tmod 2=1:=m1
    simp [m2,z1,w2,w3,w5,openI,h0]
noncomputable def c231:=ctr (fun n:Nat=>n≤1099511627776) (fun n=>[.int .i64 n]) (fun n=>(false,.int .i64 (openI n)))
theorem injN {β:Type} (out:Nat→β):∀ a b:Nat,[V.int .i64 a]=[V.int .i64 b]→out a=out b:=by
  intro a b h
  simp only [List.cons.injEq,and_true,V.int.injEq,true_and] at h
  have:a=b:=by omega
  rw [this]
theorem c231_eq (n:Nat) (h:n≤1099511627776):c231 [.int .i64 n]=some (false,.int .i64 (openI n)):=ctr_eq (injN _) n h rfl
theorem c231_ok:COK Tryz.prog (231,c231):=ctr_ok fun n h=>f231_ok n h
theorem f232_ok (n:Nat) (h:n≤1099511627776):FunOK Tryz.prog 232 [.int .i64 n] false (.int .i64 (openI n)):=by
  refine fun_ok (mkE_ok zmix (cl:=[]) (gl:=[]) [] trivial trivial) Tryz.func232 (by kernel_rfl) ?_
  refine FunW_run _ _ rfl rfl ?_
  have w2:IntKind.i64.wrap ((n:Int) + 1)=(n:Int) + 1:=wrap64 (by omega) (by omega)
  have w3:IntKind.i64.wrap (-((n:Int) + 1))=-((n:Int) + 1):=wrap64 (by omega) (by omega)
  have w4:IntKind.i64.wrap ((n:Int) / 2)=(n:Int) / 2:=wrap64 (by omega) (by omega)
  have d2:((n:Int) + 1).tdiv 2=((n:Int) + 1) / 2:=Int.tdiv_eq_ediv_of_nonneg (by omega)
  have w5:IntKind.i64.wrap (-(((n:Int) + 1).tdiv 2))=-(((n:Int) + 1) / 2):=by rw [d2];exact wrap64 (by omega) (by omega)
  have m1:=tmod2 n
  have z0:IntKind.i64.wrap 0=0:=wrap64 (by omega) (by omega)
  have z1:IntKind.i64.wrap 1=1:=wrap64 (by omega) (by omega)
  rcases Nat.mod_two_eq_zero_or_one n with h0 | h0
  · rw [h0] at m1
    have m2:(n:Int).tmod 2=0:=m1
    simp [m2,z0,w4,openI,h0]
  · rw [h0] at m1
    have m2:(n:Int).tmod 2=1:=m1
    simp [m2,z1,w2,w3,w5,openI,h0]
noncomputable def c232:=ctr (fun n:Nat=>n≤1099511627776) (fun n=>[.int .i64 n]) (fun n=>(false,.int .i64 (openI n)))
theorem c232_eq (n:Nat) (h:n≤1099511627776):c232 [.int .i64 n]=some (false,.int .i64 (openI n)):=ctr_eq (injN _) n h rfl
theorem c232_ok:COK Tryz.prog (232,c232):=ctr_ok fun n h=>f232_ok n h
theorem f253_ok (n:Int) (h:-1000000000000≤n∧n≤1000000000000):FunOK Tryz.prog 253 [.int .i64 n] false (.int .i64 (foldN n)):=by
  refine fun_ok (mkE_ok zmix (cl:=[]) (gl:=[]) [] trivial trivial) Tryz.func253 (by kernel_rfl) ?_
  refine FunW_run _ _ rfl rfl ?_
  have w1:IntKind.i64.wrap (2 * n)=2 * n:=wrap64 (by omega) (by omega)
  have w2:IntKind.i64.wrap (-2 * n)=-2 * n:=wrap64 (by omega) (by omega)
  have w2':IntKind.i64.wrap (-(2 * n))=-2 * n:=by rw [wrap64 (by omega) (by omega)];omega
  have w3:IntKind.i64.wrap (-2 * n - 1)=-2 * n - 1:=wrap64 (by omega) (by omega)
  have w3':IntKind.i64.wrap (-(2 * n) - 1)=-2 * n - 1:=by rw [wrap64 (by omega) (by omega)];omega
  by_cases h0:n < 0
  · have e:((foldN n:Nat):Int)=-2 * n - 1:=by simp [foldN,h0];omega
    rw [e]
    simp [h0,w2,w2',w3,w3']
  · have e:((foldN n:Nat):Int)=2 * n:=by simp [foldN,h0];omega
    rw [e]
    simp [h0,w1]
noncomputable def c253:=ctr (fun n:Int=>-1000000000000≤n∧n≤1000000000000) (fun n=>[.int .i64 n]) (fun n=>(false,.int .i64 (foldN n)))
theorem c253_eq (n:Int) (h:-1000000000000≤n∧n≤1000000000000):c253 [.int .i64 n]=some (false,.int .i64 (foldN n)):=ctr_eq (by intro a b h;simp only [List.cons.injEq,and_true,V.int.injEq,true_and] at h;rw [h]) n h rfl
theorem c253_ok:COK Tryz.prog (253,c253):=ctr_ok fun n h=>f253_ok n h
def digs (n:Nat):List UInt8:=if h:n < 128 then [UInt8.ofNat n] else UInt8.ofNat (n % 128 + 128) :: digs (n / 128)
  termination_by n
  decreasing_by omega
theorem digs_lt {n:Nat} (h:n < 128):digs n=[UInt8.ofNat n]:=by
  rw [digs]
  simp [h]
theorem digs_ge {n:Nat} (h:¬ n < 128):digs n=UInt8.ofNat (n % 128 + 128) :: digs (n / 128):=by
  conv=>lhs;rw [digs]
  simp [h]
def bV (x:UInt8):V:=.int .u8 x.toNat
theorem bytesL_map (l:List UInt8):bytesL (l.map bV)=some l:=by
  induction l with
  | nil=>rfl
  | cons x xs ih=>simp [bytesL,ih,bV,byteL]
theorem roomB {n:Nat} (h:n≤1048576):room ⟨1,false,1,.int .u8 0⟩ n:=by simp [room];omega
theorem wrap8 {n:Nat} (h:n < 256):IntKind.u8.wrap (n:Int)=((UInt8.ofNat n).toNat:Int):=by
  have e:(UInt8.ofNat n).toNat=n:=by simp;omega
  rw [e]
  have key:∀ m:Fin 256,IntKind.u8.wrap (m.val:Int)=(m.val:Int):=by decide
  exact key ⟨n,h⟩
end Go.TM.Tryz
end
section
set_option maxHeartbeats 8000000
set_option maxRecDepth 20000
namespace Go.TM.Tryz
open Go Go.TM Go.Proofs
def bsum (b:ByteArray):Nat→Nat
  | 0=>0
  | i + 1=>bsum b i + byteAt b i
theorem bsum_le (b:ByteArray):∀ i,bsum b i≤255 * i
  | 0=>by simp [bsum]
  | i + 1=>by
    have:=bsum_le b i
    have:=byteAt_lt b i
    simp only [bsum]
    omega
def sumB (b:ByteArray):ByteArray:=⟨#[UInt8.ofNat (bsum b b.size % 65521 / 256),UInt8.ofNat (bsum b b.size % 65521 % 256)]⟩
theorem byteAt_get {b:ByteArray} {i:Nat} (h:i < b.size):(b.data[i]'h).toNat=byteAt b i:=by
  simp only [byteAt,Array.getD]
  split
  · rfl
  · rename_i hh;exact absurd h hh
theorem f77_ok (b:ByteArray) (hb:b.size≤1000000):FunOK Tryz.prog 77 [.str b] false (.str (sumB b)):=by
  refine fun_ok (mkE_ok zmix (cl:=[]) (gl:=[]) [] trivial trivial) Tryz.func77 (by kernel_rfl) ?_
  refine FunW_run _ _ rfl rfl ?_
  simp
  refine lp_ind (fun d t=>∃ i:Nat,d + i=b.size∧t.e 0=.str b∧t.e 4=.int .i64 i∧t.e 3=.int .i64 (bsum b i % 65521:Nat)) b.size ⟨0,rfl,by simp,by simp,by simp [bsum]⟩ ?_
  rintro c' L hL d t ih ⟨i,hd,h0,h4,h3⟩
  by_cases hi:i < b.size
  · have hii:(i:Int) < b.size:=by omega
    have hbb:=byteAt_lt b i
    have hw:=wrI (i:=i) (by omega)
    have hgb:=byteAt_get hi
    obtain ⟨X,hX⟩:∃ X,X=bsum b i % 65521:=⟨_,rfl⟩
    rw [← hX] at h3
    have hwx:IntKind.i64.wrap ((byteAt b i:Nat):Int)=((byteAt b i:Nat):Int):=wrap64 (by omega) (by omega)
    have w1:IntKind.i64.wrap ((X:Int) + ((byteAt b i:Nat):Int))=((X + byteAt b i:Nat):Int):=(wrap64 (by omega) (by omega)).trans (by omega)
    have hb1:bsum b (i + 1) % 65521=(X + byteAt b i) % 65521:=by
      simp only [bsum]
      omega
    obtain ⟨Y,hY⟩:∃ Y,Y=X + byteAt b i:=⟨_,rfl⟩
    rw [← hY] at w1 hb1
    have w2:IntKind.i64.wrap ((Y:Int).tmod 65521)=((Y % 65521:Nat):Int):=by
      rw [Int.tmod_eq_emod_of_nonneg (by omega)]
      exact (wrap64 (by omega) (by omega)).trans (by omega)
    have w2':(Y:Int).tmod 65521=((Y % 65521:Nat):Int):=by
      rw [Int.tmod_eq_emod_of_nonneg (by omega)]
      omega
    obtain ⟨Z,hZ⟩:∃ Z,Z=Y % 65521:=⟨_,rfl⟩
    rw [← hZ] at w2 w2' hb1
    simp [h0,h4,h3,hL,hi,hii,hgb,wrapB,hwx,w1,w2]
    refine ih (d - 1) _ (by omega) ⟨i + 1,by omega,by simp [h0],by simp [hw],by simp [hgb,wrapB,hwx,w1,w2,w2',hb1]⟩
  · have hii:¬ (i:Int) < b.size:=by omega
    have hib:i=b.size:=by omega
    subst hib
    have hX:=Nat.mod_lt (bsum b b.size) (show 0 < 65521 by omega)
    unfold sumB
    generalize bsum b b.size % 65521=X at *
    have w3:IntKind.i64.wrap ((X:Int) / 256)=((X / 256:Nat):Int):=(wrap64 (by omega) (by omega)).trans (by omega)
    have w4:IntKind.i64.wrap ((X:Int).tmod 256)=((X % 256:Nat):Int):=by
      rw [Int.tmod_eq_emod_of_nonneg (by omega)]
      exact (wrap64 (by omega) (by omega)).trans (by omega)
    have w5:=wrap8 (n:=X / 256) (by omega)
    have w6:=wrap8 (n:=X % 256) (by omega)
    obtain ⟨P,hP⟩:∃ P,P=X / 256:=⟨_,rfl⟩
    obtain ⟨R,hR⟩:∃ R,R=X % 256:=⟨_,rfl⟩
    rw [← hP] at w3 w5 ⊢
    rw [← hR] at w4 w6 ⊢
    have w4':(X:Int).tmod 256=(R:Int):=by
      rw [Int.tmod_eq_emod_of_nonneg (by omega),hR]
      omega
    have n1:P % 256=P:=by omega
    have n2:R % 256=R:=by omega
    simp [h0,h4,h3,hL,w3,w4,w5,w6]
    rw [w4',w6]
    refine ⟨by decide,?_,?_⟩
    · have e:((P:Int) % 256).toNat=P:=by omega
      rw [e]
    · rw [Int.toNat_natCast]
      exact UInt8.ofNat_toNat
noncomputable def c77:=ctr (fun b:ByteArray=>b.size≤1000000) (fun b=>[.str b]) (fun b=>(false,.str (sumB b)))
theorem c77_eq (b:ByteArray) (h:b.size≤1000000):c77 [.str b]=some (false,.str (sumB b)):=ctr_eq (by simp) b h rfl
theorem c77_ok:COK Tryz.prog (77,c77):=ctr_ok fun b h=>f77_ok b h
theorem f197_ok (n:Nat) (h:n < 256):FunOK Tryz.prog 197 [.int .i64 n] false (.str ⟨#[UInt8.ofNat n]⟩):=by
  refine fun_ok (mkE_ok zmix (cl:=[]) (gl:=[]) [] trivial trivial) Tryz.func197 (by kernel_rfl) ?_
  refine FunW_run _ _ rfl rfl ?_
  have w:=wrap8 h
  simp [w]
  try (refine ⟨by decide,?_⟩)
  try (have e:((n:Int) % 256).toNat=n:=by omega)
  try rw [e]
noncomputable def c197:=ctr (fun n:Nat=>n < 256) (fun n=>[.int .i64 n]) (fun n=>(false,.str ⟨#[UInt8.ofNat n]⟩))
theorem c197_eq (n:Nat) (h:n < 256):c197 [.int .i64 n]=some (false,.str ⟨#[UInt8.ofNat n]⟩):=ctr_eq (injN _) n h rfl
theorem c197_ok:COK Tryz.prog (197,c197):=ctr_ok fun n h=>f197_ok n h
theorem f151_ok (b:ByteArray) (hb:b.size≤1000000):FunOK Tryz.prog 151 [.str b] false (.str (sumB b)):=by
  refine fun_ok (mkE_ok zmix (cl:=[(197,c197)]) (gl:=[]) [] c197_ok trivial) Tryz.func151 (by kernel_rfl) ?_
  refine FunW_run _ _ rfl rfl ?_
  simp
  refine lp_ind (fun d t=>∃ i:Nat,d + i=b.size∧t.e 0=.str b∧t.e 6=.int .i64 b.size∧t.e 7=.int .i64 i∧t.e 3=.int .i64 (bsum b i:Nat)) b.size ⟨0,rfl,by simp,by simp,by simp,by simp [bsum]⟩ ?_
  rintro c' L hL d t ih ⟨i,hd,h0,h6,h7,h3⟩
  by_cases hi:i < b.size
  · have hii:(i:Int) < b.size:=by omega
    have hbb:=byteAt_lt b i
    have hw:=wrI (i:=i) (by omega)
    have hgb:=byteAt_get hi
    have hle:=bsum_le b i
    have hb1:bsum b (i + 1)=bsum b i + byteAt b i:=rfl
    have hwx:IntKind.i64.wrap ((byteAt b i:Nat):Int)=((byteAt b i:Nat):Int):=wrap64 (by omega) (by omega)
    have w1:IntKind.i64.wrap ((bsum b i:Int) + ((byteAt b i:Nat):Int))=((bsum b (i + 1):Nat):Int):=(wrap64 (by omega) (by omega)).trans (by omega)
    simp [h0,h6,h7,h3,hL,hi,hii,hgb,wrapB,hwx,w1]
    refine ih (d - 1) _ (by omega) ⟨i + 1,by omega,by simp [h0],by simp [h6],by simp [hw],by simp [hgb,wrapB,hwx,w1]⟩
  · have hii:¬ (i:Int) < b.size:=by omega
    have hib:i=b.size:=by omega
    subst hib
    have hle:=bsum_le b b.size
    unfold sumB
    generalize bsum b b.size=T at *
    have hX:=Nat.mod_lt T (show 0 < 65521 by omega)
    have w2:IntKind.i64.wrap ((T:Int).tmod 65521)=((T % 65521:Nat):Int):=by
      rw [Int.tmod_eq_emod_of_nonneg (by omega)]
      exact (wrap64 (by omega) (by omega)).trans (by omega)
    have w2':(T:Int).tmod 65521=((T % 65521:Nat):Int):=by
      rw [Int.tmod_eq_emod_of_nonneg (by omega)]
      omega
    generalize T % 65521=X at *
    have w3:IntKind.i64.wrap ((X:Int) / 256)=((X / 256:Nat):Int):=(wrap64 (by omega) (by omega)).trans (by omega)
    have w4:IntKind.i64.wrap ((X:Int).tmod 256)=((X % 256:Nat):Int):=by
      rw [Int.tmod_eq_emod_of_nonneg (by omega)]
      exact (wrap64 (by omega) (by omega)).trans (by omega)
    have w4':(X:Int).tmod 256=((X % 256:Nat):Int):=by
      rw [Int.tmod_eq_emod_of_nonneg (by omega)]
      omega
    have e1:=c197_eq (X / 256) (by omega)
    have e2:=c197_eq (X % 256) (by omega)
    obtain ⟨P,hP⟩:∃ P,P=X / 256:=⟨_,rfl⟩
    obtain ⟨R,hR⟩:∃ R,R=X % 256:=⟨_,rfl⟩
    rw [← hP] at w3 e1 ⊢
    rw [← hR] at w4 w4' e2 ⊢
    have hxx:IntKind.i64.wrap (X:Int)=(X:Int):=wrap64 (by omega) (by omega)
    have hrr:IntKind.i64.wrap (R:Int)=(R:Int):=wrap64 (by omega) (by omega)
    simp [h0,h6,h7,h3,hL,w2,w2',hxx,w3,w4,w4',hrr,e1,e2]
    refine ⟨by show 1 + 1≤_;omega,?_⟩
    apply ByteArray.ext
    simp
noncomputable def c151:=ctr (fun b:ByteArray=>b.size≤1000000) (fun b=>[.str b]) (fun b=>(false,.str (sumB b)))
theorem c151_eq (b:ByteArray) (h:b.size≤1000000):c151 [.str b]=some (false,.str (sumB b)):=ctr_eq (by simp) b h rfl
theorem c151_ok:COK Tryz.prog (151,c151):=ctr_ok fun b h=>f151_ok b h
end Go.TM.Tryz
end
section
set_option maxHeartbeats 8000000
set_option maxRecDepth 20000
namespace Go.TM.Tryz
open Go Go.TM Go.Proofs
def rnL (b:ByteArray) (p:Nat):Nat→Nat→Nat→Int × Nat × Bool
  | 0,_,_=>(0,0,false)
  | f + 1,k,n=>if p + k < b.size then (if byteAt b (p + k) < 128 then (openI (n + byteAt b (p + k) % 128 * 128 ^ k),p + k + 1,decide (n + byteAt b (p + k) % 128 * 128 ^ k≤2000000000) && (decide (k=0) || decide (0 < byteAt b (p + k)))) else rnL b p f (k + 1) (n + byteAt b (p + k) % 128 * 128 ^ k)) else (0,0,false)
theorem and127 {x C:Nat} (h:x < 256) (hC:C=x % 128):(x % 2 ^ IntKind.u8.bits &&& 127 % 2 ^ IntKind.u8.bits)=C:=by
  have key:∀ m:Fin 256,(m.val % 256 &&& 127 % 256)=m.val % 128:=by decide
  rw [hC]
  exact key ⟨x,h⟩
theorem or_add {n C Q:Nat} (h:n < 2 ^ Q):n ||| C * 2 ^ Q=n + C * 2 ^ Q:=by
  rw [Nat.or_comm,Nat.mul_comm,← Nat.two_pow_add_eq_or_of_lt h]
  omega
theorem f195_ok (b:ByteArray) (p:Nat) (hp:p≤b.size) (hb:b.size≤1000000):FunOK Tryz.prog 195 [.str b,.int .i64 p] false (.tup [.int .i64 (rnL b p 5 0 0).1,.int .i64 (rnL b p 5 0 0).2.1,.bool (rnL b p 5 0 0).2.2]):=by
  refine fun_ok (mkE_ok zmix (cl:=[(232,c232)]) (gl:=[]) [] c232_ok trivial) Tryz.func195 (by kernel_rfl) ?_
  refine FunW_run _ _ rfl rfl ?_
  generalize hT:rnL b p 5 0 0=T
  simp
  refine lp_ind (fun d t=>∃ (k n:Nat),d + k=5∧t.e 0=.str b∧t.e 1=.int .i64 p∧t.e 7=.int .i64 n∧t.e 8=.int .i64 k∧n < 128 ^ k∧rnL b p d k n=T) 5 ⟨0,0,rfl,by simp,by simp,by simp,by simp,by simp,hT⟩ ?_
  rintro c' L hL d t ih ⟨k,n,hdk,h0,h1,h7,h8,hn,hr⟩
  cases d with
  | zero =>
    have hk:k=5:=by omega
    subst hk
    simp only [rnL] at hr
    subst hr
    simp [h0,h1,h7,h8,hL]
  | succ d =>
    have hki:(k:Int) < 5:=by omega
    have w1:IntKind.i64.wrap ((p:Int) + (k:Int))=((p + k:Nat):Int):=(wrap64 (by omega) (by omega)).trans (by omega)
    unfold rnL at hr
    by_cases hp2:p + k < b.size
    · have hpi:((p + k:Nat):Int) < b.size:=by omega
      rw [if_pos hp2] at hr
      obtain ⟨q,hq⟩:∃ q,q=p + k:=⟨_,rfl⟩
      rw [← hq] at hp2 hpi hr w1
      have hgb:=byteAt_get hp2
      have hbl:=byteAt_lt b q
      have hk4:k≤4:=by omega
      generalize byteAt b q=x at *
      obtain ⟨C,hC⟩:∃ C,C=x % 128:=⟨_,rfl⟩
      have a1:(x % 2 ^ IntKind.u8.bits &&& 127 % 2 ^ IntKind.u8.bits)=C:=and127 hbl hC
      have a2:IntKind.u8.wrap (C:Int)=(C:Int):=by
        have:=wrap8 (n:=C) (by omega)
        have e:(UInt8.ofNat C).toNat=C:=by simp;omega
        rw [e] at this
        exact this
      have a3:IntKind.i64.wrap (C:Int)=(C:Int):=wrap64 (by omega) (by omega)
      obtain ⟨Q,hQ⟩:∃ Q,Q=7 * k:=⟨_,rfl⟩
      have a4:IntKind.i64.wrap (7 * (k:Int))=(Q:Int):=(wrap64 (by omega) (by omega)).trans (by omega)
      have a5:min Q IntKind.i64.bits=Q:=by
        have:IntKind.i64.bits=64:=rfl
        omega
      have hp7:2 ^ Q=128 ^ k:=by rw [hQ,Nat.pow_mul]
      have hk128:128 ^ k≤128 ^ 4:=Nat.pow_le_pow_right (by omega) hk4
      obtain ⟨M,hM⟩:∃ M,M=C * 128 ^ k:=⟨_,rfl⟩
      have hMle:M≤127 * 128 ^ k:=by rw [hM];exact Nat.mul_le_mul_right _ (by omega)
      have a6a:(C:Int) * 2 ^ Q=(M:Int):=by rw [hM,← hp7];simp
      have a6b:IntKind.i64.wrap (M:Int)=(M:Int):=wrap64 (by omega) (by omega)
      have a6:((M:Int) % 2 ^ IntKind.i64.bits).toNat=M:=by
        have:IntKind.i64.bits=64:=rfl
        rw [this]
        omega
      have a6c:M % 2 ^ IntKind.i64.bits=M:=by
        have:IntKind.i64.bits=64:=rfl
        rw [this]
        omega
      obtain ⟨X,hX⟩:∃ X,X=n + M:=⟨_,rfl⟩
      have a7:n % 2 ^ IntKind.i64.bits ||| M=X:=by
        have:IntKind.i64.bits=64:=rfl
        rw [this,Nat.mod_eq_of_lt (by omega),hX,hM,← hp7]
        exact or_add (by rw [hp7];exact hn)
      have a8:IntKind.i64.wrap (X:Int)=(X:Int):=wrap64 (by omega) (by omega)
      have hMx:n + x % 128 * 128 ^ k=X:=by rw [hX,hM,hC]
      rw [hMx] at hr
      have e232:=c232_eq X (by omega)
      have hq0:0≤(Q:Int):=by omega
      have w2:IntKind.i64.wrap ((q:Int) + 1)=((q + 1:Nat):Int):=(wrap64 (by omega) (by omega)).trans (by omega)
      have w3:IntKind.i64.wrap ((k:Int) + 1)=((k + 1:Nat):Int):=(wrap64 (by omega) (by omega)).trans (by omega)
      clear hM hC hMx hQ hp7
      by_cases hx:x < 128
      · have hxi:(x:Int) < 128:=by omega
        rw [if_pos hx] at hr
        subst hr
        by_cases hX2:X≤2000000000
        · have hX2i:(X:Int)≤2000000000:=by omega
          have hbe:((k:Int) == 0)=decide (k=0):=by
            rw [Bool.eq_iff_iff]
            simp
          by_cases hx0:0 < x
          · have hx0i:(0:Int) < x:=by omega
            by_cases hk0:k=0
            · have hdk0:decide (k=0)=true:=decide_eq_true hk0
              rw [hdk0] at hbe ⊢
              simp [h0,h1,h7,h8,hL,hki,w1,hp2,hpi,hgb,a1,a2,a3,a4,a5,a6a,a6b,a6,a6c,a7,a8,e232,hq0,hxi,hx,hX2,hX2i,hbe,hx0,hx0i,w2]
            · have hdk0:decide (k=0)=false:=decide_eq_false hk0
              rw [hdk0] at hbe ⊢
              simp [h0,h1,h7,h8,hL,hki,w1,hp2,hpi,hgb,a1,a2,a3,a4,a5,a6a,a6b,a6,a6c,a7,a8,e232,hq0,hxi,hx,hX2,hX2i,hbe,hx0,hx0i,w2]
          · have hx0i:¬ (0:Int) < x:=by omega
            by_cases hk0:k=0
            · have hdk0:decide (k=0)=true:=decide_eq_true hk0
              rw [hdk0] at hbe ⊢
              simp [h0,h1,h7,h8,hL,hki,w1,hp2,hpi,hgb,a1,a2,a3,a4,a5,a6a,a6b,a6,a6c,a7,a8,e232,hq0,hxi,hx,hX2,hX2i,hbe,hx0,hx0i,w2]
            · have hdk0:decide (k=0)=false:=decide_eq_false hk0
              rw [hdk0] at hbe ⊢
              simp [h0,h1,h7,h8,hL,hki,w1,hp2,hpi,hgb,a1,a2,a3,a4,a5,a6a,a6b,a6,a6c,a7,a8,e232,hq0,hxi,hx,hX2,hX2i,hbe,hx0,hx0i,w2]
        · have hX2i:¬ (X:Int)≤2000000000:=by omega
          simp [h0,h1,h7,h8,hL,hki,w1,hp2,hpi,hgb,a1,a2,a3,a4,a5,a6a,a6b,a6,a6c,a7,a8,e232,hq0,hxi,hx,hX2,hX2i,w2]
      · have hxi:¬ (x:Int) < 128:=by omega
        rw [if_neg hx] at hr
        simp [h0,h1,h7,h8,hL,hki,w1,hp2,hpi,hgb,a1,a2,a3,a4,a5,a6a,a6b,a6,a6c,a7,a8,e232,hq0,hxi,hx,w3]
        refine ih d _ (by omega) ⟨k + 1,X,by omega,by simp [h0],by simp [h1],by simp [h0,h1,h7,h8,hL,hki,w1,hp2,hpi,hgb,a1,a2,a3,a4,a5,a6a,a6b,a6,a6c,a7,a8,e232,hq0,hxi,hx],by simp [h0,h1,h7,h8,hL,hki,w1,hp2,hpi,hgb,a1,a2,a3,a4,a5,a6a,a6b,a6,a6c,a7,a8,e232,hq0,hxi,hx,w3],?_,hr⟩
        rw [Nat.pow_succ]
        omega
    · have hpi:¬ ((p + k:Nat):Int) < b.size:=by omega
      rw [if_neg hp2] at hr
      subst hr
      obtain ⟨q,hq⟩:∃ q,q=p + k:=⟨_,rfl⟩
      rw [← hq] at hp2 hpi w1
      simp [h0,h1,h7,h8,hL,hki,w1,hp2,hpi]
end Go.TM.Tryz
end
section
set_option maxHeartbeats 8000000
set_option maxRecDepth 20000
namespace Go.TM.Tryz
open Go Go.TM Go.Proofs
def preB (s p:ByteArray):Bool:=decide (p.size≤s.size) && decide (s.extract 0 p.size=p)
theorem f192_ok (s p:ByteArray) (hs:s.size≤lim) (hp:p.size≤lim):FunOK Tryz.prog 192 [.str s,.str p] false (.bool (preB s p)):=by
  refine fun_ok (mkE_ok zmix (cl:=[]) (gl:=[]) [] trivial trivial) Tryz.func192 (by kernel_rfl) ?_
  refine FunW_run _ _ rfl rfl ?_
  by_cases h:p.size≤s.size
  · have hi:(p.size:Int)≤s.size:=by omega
    by_cases he:s.extract 0 p.size=p
    · simp [h,hi,preB,he]
    · simp [h,hi,preB,he]
  · have hi:¬ (p.size:Int)≤s.size:=by omega
    simp [h,hi,preB]
noncomputable def c192:=ctr (fun a:ByteArray × ByteArray=>a.1.size≤lim∧a.2.size≤lim) (fun a=>[.str a.1,.str a.2]) (fun a=>(false,.bool (preB a.1 a.2)))
theorem c192_eq (s p:ByteArray) (hs:s.size≤lim) (hp:p.size≤lim):c192 [.str s,.str p]=some (false,.bool (preB s p)):=ctr_eq (by rintro ⟨a,b⟩ ⟨c,d⟩;simp;rintro rfl rfl;simp) (s,p) ⟨hs,hp⟩ rfl
theorem c192_ok:COK Tryz.prog (192,c192):=ctr_ok fun a h=>f192_ok a.1 a.2 h.1 h.2
theorem f145_ok (s p:ByteArray) (hs:s.size≤lim) (hp:p.size≤lim):FunOK Tryz.prog 145 [.str s,.str p] false (.bool (preB s p)):=by
  refine fun_ok (mkE_ok zmix (cl:=[(192,c192)]) (gl:=[]) [] c192_ok trivial) Tryz.func145 (by kernel_rfl) ?_
  refine FunW_run _ _ rfl rfl ?_
  simp [c192_eq s p hs hp]
noncomputable def c145:=ctr (fun a:ByteArray × ByteArray=>a.1.size≤lim∧a.2.size≤lim) (fun a=>[.str a.1,.str a.2]) (fun a=>(false,.bool (preB a.1 a.2)))
theorem c145_eq (s p:ByteArray) (hs:s.size≤lim) (hp:p.size≤lim):c145 [.str s,.str p]=some (false,.bool (preB s p)):=ctr_eq (by rintro ⟨a,b⟩ ⟨c,d⟩;simp;rintro rfl rfl;simp) (s,p) ⟨hs,hp⟩ rfl
theorem c145_ok:COK Tryz.prog (145,c145):=ctr_ok fun a h=>f145_ok a.1 a.2 h.1 h.2
structure ORd where
  at_:Nat
  bad:Int
@[simp] def oBox (b:ByteArray) (s:ORd):V:=.agg [.str b,.int .i64 s.at_,.int .i64 s.bad]
def failF (s:ORd) (p:Int):ORd:=if s.bad < 0 then ⟨s.at_,p⟩ else s
theorem f194_ok (b:ByteArray) (s:ORd) (p:Int):GenOK Tryz.prog 194 [.ptr 0 0,.int .i64 p] [oBox b s] ⟨false,.tup [],[],[oBox b (failF s p)]⟩:=by
  refine fun_okG (mkE_ok zmix (cl:=[]) (gl:=[]) [] trivial trivial) Tryz.func194 (by kernel_rfl) ?_
  refine FunG_run _ _ rfl rfl ?_
  obtain ⟨a,bad⟩:=s
  by_cases h:bad < 0
  · simp [failF,h]
  · simp [failF,h]
theorem injOB {b:ByteArray} {β:Type} (out:ORd × Int→β):∀ x y:ORd × Int,(([V.ptr 0 0,.int .i64 x.2],[oBox b x.1]):List V × List V)=([.ptr 0 0,.int .i64 y.2],[oBox b y.1])→out x=out y:=by
  rintro ⟨⟨a,c⟩,i⟩ ⟨⟨e,f⟩,k⟩ h
  simp only [Prod.mk.injEq,List.cons.injEq,and_true,true_and,oBox,V.agg.injEq,V.int.injEq,V.bool.injEq] at h
  have h1:a=e:=by omega
  rw [h1,h.2.2,h.1]
noncomputable def c194 (b:ByteArray):=ctrG (fun _:ORd × Int=>True) (fun a=>([.ptr 0 0,.int .i64 a.2],[oBox b a.1])) (fun a=>⟨false,.tup [],[],[oBox b (failF a.1 a.2)]⟩)
theorem c194_eq (b:ByteArray) (s:ORd) (p:Int):c194 b [.ptr 0 0,.int .i64 p] [oBox b s]=some ⟨false,.tup [],[],[oBox b (failF s p)]⟩:=ctrG_eq (injOB _) (s,p) trivial rfl
theorem c194_ok (b:ByteArray):GOK Tryz.prog (194,[],c194 b):=ctrG_ok fun a _=>f194_ok b a.1 a.2
end Go.TM.Tryz
end
section
set_option maxHeartbeats 8000000
set_option maxRecDepth 20000
namespace Go.TM.Tryz
open Go Go.TM Go.Proofs
def rnmF (b:ByteArray) (p:Nat):ByteArray × Nat × Bool :=
  if b.size≤p then (⟨#[]⟩,0,false) else if b.size < p + 1 + byteAt b p ∨ nameB (b.extract (p + 1) (p + 1 + byteAt b p))=false then (⟨#[]⟩,0,false)
  else (b.extract (p + 1) (p + 1 + byteAt b p),p + 1 + byteAt b p,true)
theorem f193_ok (b:ByteArray) (p:Nat) (hp:p≤b.size) (hb:b.size≤1000000):FunOK Tryz.prog 193 [.str b,.int .i64 p] false (.tup [.str (rnmF b p).1,.int .i64 (rnmF b p).2.1,.bool (rnmF b p).2.2]):=by
  refine fun_ok (mkE_ok zmix (cl:=[(124,c124)]) (gl:=[]) [] c124_ok trivial) Tryz.func193 (by kernel_rfl) ?_
  refine FunW_run _ _ rfl rfl ?_
  by_cases h:b.size≤p
  · have hi:(b.size:Int)≤p:=by omega
    simp [rnmF,h,hi]
  · have hi:¬ (b.size:Int)≤p:=by omega
    have h':p < b.size:=by omega
    have hpi:(p:Int) < b.size:=by omega
    have hgb:=byteAt_get h'
    have hbl:=byteAt_lt b p
    have hF:rnmF b p=if b.size < p + 1 + byteAt b p ∨ nameB (b.extract (p + 1) (p + 1 + byteAt b p))=false then (⟨#[]⟩,0,false) else (b.extract (p + 1) (p + 1 + byteAt b p),p + 1 + byteAt b p,true):=by
      unfold rnmF
      rw [if_neg h]
    generalize byteAt b p=x at *
    obtain ⟨Q,hQ⟩:∃ Q,Q=p + 1:=⟨_,rfl⟩
    obtain ⟨T,hT⟩:∃ T,T=Q + x:=⟨_,rfl⟩
    rw [← hQ,← hT] at hF
    have w1:IntKind.i64.wrap ((p:Int) + 1)=(Q:Int):=(wrap64 (by omega) (by omega)).trans (by omega)
    have w2:IntKind.i64.wrap (x:Int)=(x:Int):=wrap64 (by omega) (by omega)
    have w3:IntKind.i64.wrap ((Q:Int) + (x:Int))=(T:Int):=(wrap64 (by omega) (by omega)).trans (by omega)
    have w0:IntKind.i64.wrap (p:Int)=(p:Int):=wrap64 (by omega) (by omega)
    have e124:=c124_eq (b.extract Q T) (by simp [lim];omega)
    have hQT:(Q:Int)≤T:=by omega
    have hQT':Q≤T:=by omega
    clear hT hQ
    rw [hF]
    by_cases hs:b.size < T
    · have hsi:(b.size:Int) < T:=by omega
      simp [h,hi,h',hpi,hgb,w0,w1,w2,w3,hs,hsi,hQT,hQT',e124]
    · have hsi:¬ (b.size:Int) < T:=by omega
      have hsj:T≤b.size:=by omega
      cases hn:nameB (b.extract Q T) with
      | false =>
        rw [hn] at e124
        simp [h,hi,h',hpi,hgb,w0,w1,w2,w3,hs,hsi,hsj,hQT,hQT',e124,hn]
      | true =>
        rw [hn] at e124
        simp [h,hi,h',hpi,hgb,w0,w1,w2,w3,hs,hsi,hsj,hQT,hQT',e124,hn]
theorem injP {b:ByteArray} {β:Type} (out:Nat→β):∀ x y:Nat,[V.str b,.int .i64 x]=[.str b,.int .i64 y]→out x=out y:=by
  intro x y h
  simp only [List.cons.injEq,and_true,V.int.injEq,true_and] at h
  have:x=y:=by omega
  rw [this]
def PB (b:ByteArray) (p:Nat):Prop:=p≤b.size∧b.size≤1000000
noncomputable def c193 (b:ByteArray):=ctr (fun p:Nat=>PB b p) (fun p=>[.str b,.int .i64 p]) (fun p=>(false,.tup [.str (rnmF b p).1,.int .i64 (rnmF b p).2.1,.bool (rnmF b p).2.2]))
theorem c193_eq (b:ByteArray) (p:Nat) (h:PB b p):c193 b [.str b,.int .i64 p]=some (false,.tup [.str (rnmF b p).1,.int .i64 (rnmF b p).2.1,.bool (rnmF b p).2.2]):=ctr_eq (injP _) p h rfl
theorem c193_ok (b:ByteArray):COK Tryz.prog (193,c193 b):=ctr_ok fun p h=>f193_ok b p h.1 h.2
end Go.TM.Tryz
end
section
set_option maxHeartbeats 8000000
set_option maxRecDepth 20000
namespace Go.TM.Tryz
open Go Go.TM Go.Proofs
noncomputable def c195 (b:ByteArray):=ctr (fun p:Nat=>PB b p) (fun p=>[.str b,.int .i64 p]) (fun p=>(false,.tup [.int .i64 (rnL b p 5 0 0).1,.int .i64 (rnL b p 5 0 0).2.1,.bool (rnL b p 5 0 0).2.2]))
theorem c195_eq (b:ByteArray) (p:Nat) (h:PB b p):c195 b [.str b,.int .i64 p]=some (false,.tup [.int .i64 (rnL b p 5 0 0).1,.int .i64 (rnL b p 5 0 0).2.1,.bool (rnL b p 5 0 0).2.2]):=ctr_eq (injP _) p h rfl
theorem c195_ok (b:ByteArray):COK Tryz.prog (195,c195 b):=ctr_ok fun p h=>f195_ok b p h.1 h.2
def numO (b:ByteArray) (lo hi:Int) (s:ORd):Int × ORd :=
  if 0≤s.bad then (0,s) else if (rnL b s.at_ 5 0 0).2.2=false ∨ inB (rnL b s.at_ 5 0 0).1 lo hi=false then (0,failF s s.at_) else ((rnL b s.at_ 5 0 0).1,⟨(rnL b s.at_ 5 0 0).2.1,s.bad⟩)
def sinO (b:ByteArray) (lo hi:Int) (s:ORd):Int × ORd :=
  if 0≤s.bad ∨ b.size≤s.at_ ∨ inB (byteAt b s.at_) lo hi=false then (0,failF s s.at_) else (byteAt b s.at_,⟨s.at_ + 1,s.bad⟩)
def nameO (b:ByteArray) (mb:Bool) (s:ORd):ByteArray × ORd :=
  if 0≤s.bad then (⟨#[]⟩,s) else if mb=true∧s.at_ < b.size∧byteAt b s.at_=0 then (⟨#[]⟩,⟨s.at_ + 1,s.bad⟩)
  else if (rnmF b s.at_).2.2=false then (⟨#[]⟩,failF s s.at_) else ((rnmF b s.at_).1,⟨(rnmF b s.at_).2.1,s.bad⟩)
def OOK (b:ByteArray) (s:ORd):Prop:=s.at_≤b.size∧b.size≤1000000
theorem f148_ok (b:ByteArray) (lo hi:Int) (s:ORd) (h:OOK b s):GenOK Tryz.prog 148 [.ptr 0 0,.int .i64 lo,.int .i64 hi] [oBox b s] ⟨false,.int .i64 (numO b lo hi s).1,[],[oBox b (numO b lo hi s).2]⟩:=by
  refine fun_okG (mkE_ok zmix (cl:=[(175,c175),(195,c195 b)]) (gl:=[(194,[],c194 b)]) [] ⟨c175_ok,c195_ok b⟩ (c194_ok b)) Tryz.func148 (by kernel_rfl) ?_
  refine FunG_run _ _ rfl rfl ?_
  have hF:=numO.eq_1 b lo hi s
  have e195:=c195_eq b s.at_ h
  have e194:=c194_eq b s s.at_
  obtain ⟨p,bad⟩:=s
  simp only at *
  generalize rnL b p 5 0 0=q at *
  obtain ⟨n,to,ok⟩:=q
  have e175:=c175_eq n lo hi
  simp only [oBox] at *
  by_cases hb:0≤bad
  · simp [hF,hb]
  · have hb':bad < 0:=by omega
    cases ok with
    | false=>simp [hF,hb,hb',e195,e175,e194]
    | true =>
      cases hi':inB n lo hi with
      | false =>
        rw [hi'] at e175
        simp [hF,hb,hb',e195,e175,e194,hi']
      | true =>
        rw [hi'] at e175
        simp [hF,hb,hb',e195,e175,e194,hi']
theorem f196_ok (b:ByteArray) (lo hi:Int) (s:ORd) (h:OOK b s):GenOK Tryz.prog 196 [.ptr 0 0,.int .i64 lo,.int .i64 hi] [oBox b s] ⟨false,.int .i64 (sinO b lo hi s).1,[],[oBox b (sinO b lo hi s).2]⟩:=by
  refine fun_okG (mkE_ok zmix (cl:=[(175,c175)]) (gl:=[(194,[],c194 b)]) [] c175_ok (c194_ok b)) Tryz.func196 (by kernel_rfl) ?_
  refine FunG_run _ _ rfl rfl ?_
  have hF:=sinO.eq_1 b lo hi s
  have e194:=c194_eq b s s.at_
  obtain ⟨hs,hbs⟩:=h
  obtain ⟨p,bad⟩:=s
  simp only [oBox] at *
  have w0:IntKind.i64.wrap (p:Int)=(p:Int):=wrap64 (by omega) (by omega)
  by_cases hb:0≤bad
  · have e175':=c175_eq (IntKind.i64.wrap ((b.data[p]?.getD 0).toNat:Int)) lo hi
    simp [hF,hb,e194,e175']
  · by_cases hp:b.size≤p
    · have hpi:(b.size:Int)≤p:=by omega
      have e175':=c175_eq (IntKind.i64.wrap 0) lo hi
      simp [hF,hb,hp,hpi,e194,e175']
    · have hpi:¬ (b.size:Int)≤p:=by omega
      have hp':p < b.size:=by omega
      have hpj:(p:Int) < b.size:=by omega
      have hgb:=byteAt_get hp'
      have hbl:=byteAt_lt b p
      generalize byteAt b p=x at *
      have wx:IntKind.i64.wrap (x:Int)=(x:Int):=wrap64 (by omega) (by omega)
      have e175:=c175_eq x lo hi
      have w1:IntKind.i64.wrap ((p:Int) + 1)=(p:Int) + 1:=wrap64 (by omega) (by omega)
      cases hi':inB x lo hi with
      | false =>
        rw [hi'] at e175
        simp [hF,hb,hp,hpi,hp',hpj,hgb,w0,wx,w1,e175,e194,hi']
      | true =>
        rw [hi'] at e175
        simp [hF,hb,hp,hpi,hp',hpj,hgb,w0,wx,w1,e175,e194,hi']
end Go.TM.Tryz
end
section
set_option maxHeartbeats 8000000
set_option maxRecDepth 20000
namespace Go.TM.Tryz
open Go Go.TM Go.Proofs
theorem f147_ok (b:ByteArray) (mb:Bool) (s:ORd) (h:OOK b s):GenOK Tryz.prog 147 [.ptr 0 0,.bool mb] [oBox b s] ⟨false,.str (nameO b mb s).1,[],[oBox b (nameO b mb s).2]⟩:=by
  refine fun_okG (mkE_ok zmix (cl:=[(193,c193 b)]) (gl:=[(194,[],c194 b)]) [] (c193_ok b) (c194_ok b)) Tryz.func147 (by kernel_rfl) ?_
  refine FunG_run _ _ rfl rfl ?_
  have hF:=nameO.eq_1 b mb s
  have e193:=c193_eq b s.at_ h
  have e194:=c194_eq b s s.at_
  obtain ⟨hs,hbs⟩:=h
  obtain ⟨p,bad⟩:=s
  simp only [oBox] at *
  have w1:IntKind.i64.wrap ((p:Int) + 1)=(p:Int) + 1:=wrap64 (by omega) (by omega)
  by_cases hb:0≤bad
  · simp [hF,hb]
  · generalize rnmF b p=q at *
    obtain ⟨nm,to,ok⟩:=q
    simp only at *
    have tail:mb=false ∨ ¬ p < b.size ∨ ¬ byteAt b p=0→nameO b mb ⟨p,bad⟩=if ok=false then (⟨#[]⟩,failF ⟨p,bad⟩ p) else (nm,⟨to,bad⟩):=by
      intro hc
      rw [hF,if_neg hb,if_neg]
      rintro ⟨h1,h2,h3⟩
      rcases hc with hc | hc | hc
      · rw [h1] at hc;cases hc
      · exact hc h2
      · exact hc h3
    cases mb with
    | false =>
      rw [tail (.inl rfl)]
      cases ok with
      | true=>simp [hb,e193,e194]
      | false=>simp [hb,e193,e194]
    | true =>
      by_cases hp:p < b.size
      · have hpi:(p:Int) < b.size:=by omega
        have hgb:=byteAt_get hp
        by_cases h0:byteAt b p=0
        · have hF2:nameO b true ⟨p,bad⟩=(⟨#[]⟩,⟨p + 1,bad⟩):=by
            rw [hF,if_neg hb,if_pos ⟨rfl,hp,h0⟩]
          rw [hF2]
          rw [h0] at hgb
          simp [hb,w1,hp,hpi,hgb,h0]
        · rw [tail (.inr (.inr h0))]
          have h0':¬ b.data[p].toNat=0:=by rw [hgb];exact h0
          cases ok with
          | true=>simp [hb,e193,e194,hp,hpi,h0',h0]
          | false=>simp [hb,e193,e194,hp,hpi,h0',h0]
      · have hpi:¬ (p:Int) < b.size:=by omega
        rw [tail (.inr (.inl hp))]
        cases ok with
        | true=>simp [hb,e193,e194,hp,hpi]
        | false=>simp [hb,e193,e194,hp,hpi]
end Go.TM.Tryz
end
section
set_option maxHeartbeats 8000000
set_option maxRecDepth 20000
namespace Go.TM.Tryz
open Go Go.TM Go.Proofs
theorem digs_len {f:Nat}:∀ {n:Nat},n < 128 ^ (f + 1)→(digs n).length≤f + 1:=by
  induction f with
  | zero =>
    intro n h
    rw [digs_lt (by omega)]
    simp
  | succ f ih =>
    intro n h
    by_cases hn:n < 128
    · rw [digs_lt hn]
      simp
    · rw [digs_ge hn]
      have:n / 128 < 128 ^ (f + 1):=by
        rw [Nat.div_lt_iff_lt_mul (by omega)]
        rw [Nat.pow_succ] at h
        exact h
      have:=ih this
      simp
      omega
theorem f230_ok (n:Int) (h:-1000000000000≤n∧n≤1000000000000):FunOK Tryz.prog 230 [.int .i64 n] false (.str ⟨(digs (foldN n)).toArray⟩):=by
  refine fun_ok (mkE_ok zmix (cl:=[(253,c253)]) (gl:=[]) [] c253_ok trivial) Tryz.func230 (by kernel_rfl) ?_
  refine FunW_run _ _ rfl rfl ?_
  have e253:=c253_eq n (by omega)
  have hf:foldN n≤2000000000000:=by
    unfold foldN
    split <;> omega
  generalize foldN n=m at *
  have hlen:=digs_len (f:=5) (n:=m) (by omega)
  simp [e253]
  refine lp_ind (fun d t=>∃ (r:Nat) (l:List UInt8),d=r∧r≤2000000000000∧t.e 0=.int .i64 r∧l ++ digs r=digs m∧∃ p,t.e 3=.own p∧p < t.nt∧t.R p=some ⟨1,l.map bV,true⟩) m ⟨m,[],rfl,hf,by simp,by simp,?_⟩ ?_
  · simp
  · rintro c' L hL d t ih ⟨r,l,rfl,hr,h0,hl,p,h3,hp,hR⟩
    have hll:l.length + (digs d).length≤6:=by
      have:=congrArg List.length hl
      rw [List.length_append] at this
      omega
    have n1:¬ p=t.nt:=by omega
    have n2:¬ p=t.nt + 1:=by omega
    have hrm:=roomB (n:=l.length + 1) (by omega)
    by_cases hc:d < 128
    · have hci:¬ (128:Int)≤d:=by omega
      have hm:=wrap8 (n:=d) (by omega)
      rw [digs_lt hc] at hl
      have hb:bytesL (l.map bV ++ [bV (UInt8.ofNat d)])=some (digs m):=by
        rw [← hl]
        have:=bytesL_map (l ++ [UInt8.ofNat d])
        rwa [List.map_append] at this
      have hbv:bV (UInt8.ofNat d)=.int .u8 ((d:Int) % 256):=by simp [bV]
      rw [hbv] at hb
      simp [h0,h3,hR,hL,hci,n1,n2,hm,hrm,hb]
    · have hci:(128:Int)≤d:=by omega
      have w1:IntKind.i64.wrap ((d:Int).tmod 128)=(d:Int) % 128:=by
        rw [Int.tmod_eq_emod_of_nonneg (by omega)]
        exact wrap64 (by omega) (by omega)
      have w2:IntKind.i64.wrap ((d:Int) % 128 + 128)=(d:Int) % 128 + 128:=wrap64 (by omega) (by omega)
      have w12:IntKind.i64.wrap ((d:Int).tmod 128 + 128)=(d:Int) % 128 + 128:=by
        rw [Int.tmod_eq_emod_of_nonneg (by omega)]
        exact wrap64 (by omega) (by omega)
      have w3:IntKind.u8.wrap ((d:Int) % 128 + 128)=(d:Int) % 128 + 128:=by
        have:=wrap8 (n:=d % 128 + 128) (by omega)
        have e:(UInt8.ofNat (d % 128 + 128)).toNat=d % 128 + 128:=by simp;omega
        rw [e] at this
        exact this
      have w4:IntKind.i64.wrap ((d:Int) / 128)=(d:Int) / 128:=wrap64 (by omega) (by omega)
      simp [h0,h3,hR,hL,hci,n1,n2,w1,w2,w3,w4,hrm]
      rw [digs_ge hc] at hl hll
      refine ih (d / 128) _ (by omega) ⟨d / 128,l ++ [UInt8.ofNat (d % 128 + 128)],rfl,by omega,by simp [w4],by rw [List.append_assoc];exact hl,t.nt + 1,by simp,by simp,?_⟩
      have hbv:bV (UInt8.ofNat (d % 128 + 128))=.int .u8 ((d:Int) % 128 + 128):=by
        simp only [bV]
        have e:(UInt8.ofNat (d % 128 + 128)).toNat=d % 128 + 128:=by simp;omega
        rw [e]
        congr 1
      simp [-UInt8.ofNat_add,hbv,w1,w2,w12,w3]
end Go.TM.Tryz
end
section
set_option maxHeartbeats 8000000
set_option maxRecDepth 20000
namespace Go.TM.Tryz
open Go Go.TM Go.Proofs
theorem injSB {b:ByteArray} {β:Type} (out:SRd→β):∀ x y:SRd,(([V.ptr 0 0],[sBox b x]):List V × List V)=([.ptr 0 0],[sBox b y])→out x=out y:=by
  rintro ⟨a,c,d⟩ ⟨e,f,g⟩ h
  simp only [Prod.mk.injEq,List.cons.injEq,and_true,true_and,sBox,V.agg.injEq,V.int.injEq,V.bool.injEq] at h
  have h1:a=e:=by omega
  have h2:d=g:=by omega
  rw [h1,h.2.1,h2]
noncomputable def c187 (b:ByteArray):=ctrG (fun s:SRd=>s.at_≤1048576) (fun s=>([.ptr 0 0],[sBox b s])) (fun s=>⟨false,.int .i64 (byte1 b s).1,[],[sBox b (byte1 b s).2]⟩)
theorem c187_eq (b:ByteArray) (s:SRd) (h:s.at_≤1048576):c187 b [.ptr 0 0] [sBox b s]=some ⟨false,.int .i64 (byte1 b s).1,[],[sBox b (byte1 b s).2]⟩:=ctrG_eq (injSB _) s h rfl
theorem c187_ok (b:ByteArray):GOK Tryz.prog (187,[],c187 b):=ctrG_ok fun s h=>f187_ok b s h
noncomputable def c230:=ctr (fun n:Int=>-1000000000000≤n∧n≤1000000000000) (fun n=>[.int .i64 n]) (fun n=>(false,.str ⟨(digs (foldN n)).toArray⟩))
theorem c230_eq (n:Int) (h:-1000000000000≤n∧n≤1000000000000):c230 [.int .i64 n]=some (false,.str ⟨(digs (foldN n)).toArray⟩):=ctr_eq (by intro a b h;simp only [List.cons.injEq,and_true,V.int.injEq,true_and] at h;rw [h]) n h rfl
theorem c230_ok:COK Tryz.prog (230,c230):=ctr_ok fun n h=>f230_ok n h
theorem byte1_at (b:ByteArray) (s:SRd):s.at_≤(byte1 b s).2.at_∧(byte1 b s).2.at_≤s.at_ + 1∧((byte1 b s).2.bad=false→s.bad=false∧(byte1 b s).2.at_≤b.size)∧(byte1 b s).1 < 256:=by
  unfold byte1
  split
  · refine ⟨by simp,by simp,fun h=>(by cases h),by simp⟩
  · rename_i h
    simp only [not_or,Nat.not_le,Bool.not_eq_true] at h
    exact ⟨by simp,by simp,fun _=>⟨h.1,by simp;omega⟩,byteAt_lt _ _⟩
def numL (b:ByteArray):Nat→Nat→Nat→SRd→Nat × SRd
  | 0,n,_,s=>(n,s)
  | f + 1,n,y,s=>if (byte1 b s).1 < 128 then (n + (byte1 b s).1 % 128 * y,(byte1 b s).2) else numL b f (n + (byte1 b s).1 % 128 * y) (y * 128) (byte1 b s).2
theorem numL_at (b:ByteArray):∀ (f n y:Nat) (s:SRd),s.at_≤(numL b f n y s).2.at_∧(numL b f n y s).2.at_≤s.at_ + f∧((numL b f n y s).2.bad=false→s.bad=false∧(s.at_≤b.size→(numL b f n y s).2.at_≤b.size))∧(n < y→(numL b f n y s).1 < y * 128 ^ f)
  | 0,n,y,s=>by simp [numL]
  | f + 1,n,y,s=>by
    obtain ⟨h1,h2,h3,h4⟩:=byte1_at b s
    have hm:(byte1 b s).1 % 128 < 128:=Nat.mod_lt _ (by omega)
    have hmy:(byte1 b s).1 % 128 * y≤127 * y:=Nat.mul_le_mul_right _ (by omega)
    unfold numL
    split
    · refine ⟨h1,by simp;omega,fun hb=>⟨(h3 hb).1,fun _=>(h3 hb).2⟩,fun hn=>?_⟩
      have h5:1≤128 ^ f:=Nat.one_le_pow _ _ (by omega)
      have h6:y * 128≤y * 128 ^ (f + 1):=Nat.mul_le_mul_left _ (by rw [Nat.pow_succ];omega)
      simp only
      omega
    · obtain ⟨k1,k2,k3,k4⟩:=numL_at b f (n + (byte1 b s).1 % 128 * y) (y * 128) (byte1 b s).2
      refine ⟨by omega,by omega,fun hb=>?_,fun hn=>?_⟩
      · obtain ⟨k5,k6⟩:=k3 hb
        exact ⟨(h3 k5).1,fun _=>k6 (h3 k5).2⟩
      · have:=k4 (by omega)
        rw [Nat.pow_succ,Nat.mul_comm (128 ^ f) 128,← Nat.mul_assoc]
        exact this
def numF (b:ByteArray) (s:SRd):Int × SRd :=
  if (numL b 5 0 1 s).2.bad=true ∨ 2000000000 < (numL b 5 0 1 s).1 ∨ (⟨(digs (numL b 5 0 1 s).1).toArray⟩:ByteArray) ≠ b.extract s.at_ (numL b 5 0 1 s).2.at_ then (0,⟨(numL b 5 0 1 s).2.at_,true,(numL b 5 0 1 s).2.place⟩)
  else (openI (numL b 5 0 1 s).1,(numL b 5 0 1 s).2)
theorem openI_wide {n:Nat} (h:n≤1099511627776):-1000000000000≤openI n∧openI n≤1000000000000:=by
  unfold openI
  split <;> omega
theorem f188_ok (b:ByteArray) (s:SRd) (hs:s.at_≤b.size) (hb:b.size≤1000000):GenOK Tryz.prog 188 [.ptr 0 0] [sBox b s] ⟨false,.int .i64 (numF b s).1,[],[sBox b (numF b s).2]⟩:=by
  refine fun_okG (mkE_ok zmix (cl:=[(230,c230),(231,c231)]) (gl:=[(187,[],c187 b)]) [] ⟨c230_ok,c231_ok⟩ (c187_ok b)) Tryz.func188 (by kernel_rfl) ?_
  refine FunG_run _ _ rfl rfl ?_
  have hfin:=numL_at b 5 0 1 s
  simp
  refine lp_ind (fun d t=>∃ (k n y:Nat) (u:SRd),d + k=5∧t.e 0=.ptr 0 0∧t.e 3=.int .i64 s.at_∧t.e 4=.int .i64 n∧t.e 5=.int .i64 y∧t.e 6=.int .i64 k∧t.nb=1∧t.B 0=some (.agg [.str b,.int .i64 u.at_,.bool u.bad,.int .i64 u.place])∧n < y∧y≤128 ^ k∧u.at_≤s.at_ + k∧numL b d n y u=numL b 5 0 1 s) 5 ⟨0,0,1,s,rfl,by simp,by simp,by simp,by simp,by simp,by simp,by simp,by omega,by omega,by omega,rfl⟩ ?_
  rintro c' L hL d t ih ⟨k,n,y,u,hdk,h0,h3,h4,h5,h6,hnb,hB,hny,hy,hua,hnum⟩
  cases d with
  | zero =>
    have hk:k=5:=by omega
    subst hk
    have hnum':numL b 5 0 1 s=(n,u):=hnum.symm
    have hN:n≤1099511627776:=by omega
    have hF:numF b s=if u.bad=true ∨ 2000000000 < n ∨ (⟨(digs n).toArray⟩:ByteArray) ≠ b.extract s.at_ u.at_ then (0,⟨u.at_,true,u.place⟩) else (openI n,u):=by
      simp only [numF,hnum']
    have e231:=c231_eq n hN
    have e230:=c230_eq (openI n) (openI_wide hN)
    rw [fold_open] at e230
    cases hbad:u.bad with
    | true =>
      simp [h0,h3,h4,h5,h6,hB,hL,hbad,hF,e231,e230]
    | false =>
      obtain ⟨g1,g2,g3,_⟩:=hfin
      rw [hnum'] at g1 g2 g3
      have g4:=(g3 hbad).2 hs
      simp only at g1 g2 g4
      by_cases h2:2000000000 < n
      · have h2i:(2000000000:Int) < n:=by omega
        simp [h0,h3,h4,h5,h6,hB,hL,hbad,h2,h2i,hF,e231,e230]
      · have h2i:¬ (2000000000:Int) < n:=by omega
        by_cases heq:(⟨(digs n).toArray⟩:ByteArray)=b.extract s.at_ u.at_
        · simp [h0,h3,h4,h5,h6,hB,hL,hbad,h2,h2i,hF,e231,e230,heq,g1,g4]
        · simp [h0,h3,h4,h5,h6,hB,hL,hbad,h2,h2i,hF,e231,e230,heq,g1,g4]
  | succ d =>
    have hk5:(k:Int) < 5:=by omega
    have hy5:128 ^ k≤128 ^ 4:=Nat.pow_le_pow_right (by omega) (by omega)
    have hyb:y≤268435456:=Nat.le_trans hy hy5
    have e187:=c187_eq b u (by omega)
    simp only [sBox] at e187
    obtain ⟨q1,q2,q3,q4⟩:=byte1_at b u
    have hm:(byte1 b u).1 % 128 < 128:=Nat.mod_lt _ (by omega)
    have hmy:(byte1 b u).1 % 128 * y≤127 * y:=Nat.mul_le_mul_right _ (by omega)
    obtain ⟨X,hX⟩:∃ X,X=n + (byte1 b u).1 % 128 * y:=⟨_,rfl⟩
    have w1:((byte1 b u).1:Int).tmod 128=(((byte1 b u).1 % 128:Nat):Int):=by
      rw [Int.tmod_eq_emod_of_nonneg (by omega)]
      omega
    have w3:IntKind.i64.wrap ((n:Int) + IntKind.i64.wrap (((byte1 b u).1:Int).tmod 128 * (y:Int)))=(X:Int):=by
      have w2:IntKind.i64.wrap ((((byte1 b u).1 % 128 * y:Nat)):Int)=(((byte1 b u).1 % 128 * y:Nat):Int):=wrap64 (by omega) (by omega)
      rw [w1,← Int.natCast_mul,w2]
      exact (wrap64 (by omega) (by omega)).trans (by omega)
    have w4:IntKind.i64.wrap ((y:Int) * 128)=((y * 128:Nat):Int):=(wrap64 (by omega) (by omega)).trans (by omega)
    have w5:IntKind.i64.wrap ((k:Int) + 1)=((k + 1:Nat):Int):=(wrap64 (by omega) (by omega)).trans (by omega)
    by_cases hx:(byte1 b u).1 < 128
    · have hxi:((byte1 b u).1:Int) < 128:=by omega
      have hnum':numL b 5 0 1 s=(X,(byte1 b u).2):=by
        rw [hX,← hnum]
        conv=>lhs;unfold numL
        rw [if_pos hx]
      have hN:X≤1099511627776:=by omega
      have hF:numF b s=if (byte1 b u).2.bad=true ∨ 2000000000 < X ∨ (⟨(digs X).toArray⟩:ByteArray) ≠ b.extract s.at_ (byte1 b u).2.at_ then (0,⟨(byte1 b u).2.at_,true,(byte1 b u).2.place⟩) else (openI X,(byte1 b u).2):=by
        simp only [numF,hnum']
      have e231:=c231_eq X hN
      have e230:=c230_eq (openI X) (openI_wide hN)
      rw [fold_open] at e230
      cases hbad:(byte1 b u).2.bad with
      | true =>
        simp [h0,h3,h4,h5,h6,hB,hL,e187,hxi,hk5,w3,w4,w5,hbad,hF,e231,e230]
      | false =>
        obtain ⟨g1,g2,g3,_⟩:=hfin
        rw [hnum'] at g1 g2 g3
        have g4:=(g3 hbad).2 hs
        simp only at g1 g2 g4
        by_cases h2:2000000000 < X
        · have h2i:(2000000000:Int) < X:=by omega
          simp [h0,h3,h4,h5,h6,hB,hL,e187,hxi,hk5,w3,w4,w5,hbad,h2,h2i,hF,e231,e230]
        · have h2i:¬ (2000000000:Int) < X:=by omega
          by_cases heq:(⟨(digs X).toArray⟩:ByteArray)=b.extract s.at_ (byte1 b u).2.at_
          · simp [h0,h3,h4,h5,h6,hB,hL,e187,hxi,hk5,w3,w4,w5,hbad,h2,h2i,hF,e231,e230,heq,g1,g4]
          · simp [h0,h3,h4,h5,h6,hB,hL,e187,hxi,hk5,w3,w4,w5,hbad,h2,h2i,hF,e231,e230,heq,g1,g4]
    · have hxi:¬ ((byte1 b u).1:Int) < 128:=by omega
      simp [h0,h3,h4,h5,h6,hB,hL,e187,hxi,hk5,w3,w4,w5]
      refine ih d _ (by omega) ⟨k + 1,X,y * 128,(byte1 b u).2,by omega,by simp [h0],by simp [h3],by simp [w3],by simp [w4],by simp [w5],by simp [hnb],by simp,by omega,by rw [Nat.pow_succ];omega,by omega,?_⟩
      rw [hX,← hnum]
      conv=>rhs;unfold numL
      rw [if_neg hx]
end Go.TM.Tryz
end
section
set_option maxHeartbeats 8000000
set_option maxRecDepth 20000
namespace Go.TM.Tryz
open Go Go.TM Go.Proofs
theorem byte1_sz {b:ByteArray} {s:SRd} (h:s.at_≤b.size):(byte1 b s).2.at_≤b.size:=by
  unfold byte1
  split
  · exact h
  · rename_i h'
    simp only [not_or,Nat.not_le] at h'
    simp
    omega
theorem numL_sz {b:ByteArray}:∀ {f n y:Nat} {s:SRd},s.at_≤b.size→(numL b f n y s).2.at_≤b.size
  | 0,n,y,s,h=>h
  | f + 1,n,y,s,h=>by
    unfold numL
    split
    · exact byte1_sz h
    · exact numL_sz (byte1_sz h)
theorem numF_sz {b:ByteArray} {s:SRd} (h:s.at_≤b.size):(numF b s).2.at_≤b.size:=by
  unfold numF
  split
  · exact numL_sz h
  · exact numL_sz h
def SOK (b:ByteArray) (s:SRd):Prop:=s.at_≤b.size∧b.size≤1000000
noncomputable def c188 (b:ByteArray):=ctrG (fun s:SRd=>SOK b s) (fun s=>([.ptr 0 0],[sBox b s])) (fun s=>⟨false,.int .i64 (numF b s).1,[],[sBox b (numF b s).2]⟩)
theorem c188_eq (b:ByteArray) (s:SRd) (h:SOK b s):c188 b [.ptr 0 0] [sBox b s]=some ⟨false,.int .i64 (numF b s).1,[],[sBox b (numF b s).2]⟩:=ctrG_eq (injSB _) s h rfl
theorem c188_ok (b:ByteArray):GOK Tryz.prog (188,[],c188 b):=ctrG_ok fun s h=>f188_ok b s h.1 h.2
def nameF (b:ByteArray) (s:SRd):ByteArray × SRd :=
  if (byte1 b s).2.bad=true ∨ b.size < (byte1 b s).2.at_ + (byte1 b s).1 ∨ nameB (b.extract (byte1 b s).2.at_ ((byte1 b s).2.at_ + (byte1 b s).1))=false then (⟨#[]⟩,⟨(byte1 b s).2.at_,true,(byte1 b s).2.place⟩)
  else (b.extract (byte1 b s).2.at_ ((byte1 b s).2.at_ + (byte1 b s).1),⟨(byte1 b s).2.at_ + (byte1 b s).1,(byte1 b s).2.bad,(byte1 b s).2.place⟩)
theorem nameF_sz {b:ByteArray} {s:SRd} (h:s.at_≤b.size):(nameF b s).2.at_≤b.size:=by
  unfold nameF
  split
  · exact byte1_sz h
  · rename_i h'
    simp only [not_or,Nat.not_lt] at h'
    exact h'.2.1
theorem f140_ok (b:ByteArray) (s:SRd) (h:SOK b s):GenOK Tryz.prog 140 [.ptr 0 0] [sBox b s] ⟨false,.str (nameF b s).1,[],[sBox b (nameF b s).2]⟩:=by
  refine fun_okG (mkE_ok zmix (cl:=[(111,c111)]) (gl:=[(187,[],c187 b)]) [] c111_ok (c187_ok b)) Tryz.func140 (by kernel_rfl) ?_
  refine FunG_run _ _ rfl rfl ?_
  obtain ⟨hs,hb⟩:=h
  have e187:=c187_eq b s (by omega)
  simp only [sBox] at e187
  have q0:=byte1_sz hs
  obtain ⟨q1,q2,q3,q4⟩:=byte1_at b s
  have hF:=nameF.eq_1 b s
  generalize byte1 b s=q at *
  obtain ⟨n,p,bad,pl⟩:=q
  simp only at *
  have e111:=c111_eq (b.extract p (p + n)) (by simp [lim];omega)
  have w1:IntKind.i64.wrap ((p:Int) + (n:Int))=(p:Int) + (n:Int):=wrap64 (by omega) (by omega)
  have t1:((p:Int) + (n:Int)).toNat=p + n:=by omega
  have w2:IntKind.i64.wrap ((p:Int) + (n:Int) - (n:Int))=(p:Int):=by rw [wrap64 (by omega) (by omega)];omega
  have w3:IntKind.i64.wrap (p:Int)=(p:Int):=wrap64 (by omega) (by omega)
  cases bad with
  | true=>simp [e187,w1,t1,hF,e111]
  | false =>
    by_cases h1:b.size < p + n
    · have h1i:(b.size:Int) < (p:Int) + (n:Int):=by omega
      simp [e187,w1,t1,hF,h1,h1i,e111]
    · have h1i:¬ (b.size:Int) < (p:Int) + (n:Int):=by omega
      cases hn:nameB (b.extract p (p + n)) with
      | false =>
        rw [hn] at e111
        simp [e187,w1,t1,hF,h1,h1i,e111,hn]
        omega
      | true =>
        rw [hn] at e111
        simp [e187,w1,t1,w2,w3,hF,h1,h1i,e111,hn]
        omega
noncomputable def c140 (b:ByteArray):=ctrG (fun s:SRd=>SOK b s) (fun s=>([.ptr 0 0],[sBox b s])) (fun s=>⟨false,.str (nameF b s).1,[],[sBox b (nameF b s).2]⟩)
theorem c140_eq (b:ByteArray) (s:SRd) (h:SOK b s):c140 b [.ptr 0 0] [sBox b s]=some ⟨false,.str (nameF b s).1,[],[sBox b (nameF b s).2]⟩:=ctrG_eq (injSB _) s h rfl
theorem c140_ok (b:ByteArray):GOK Tryz.prog (140,[],c140 b):=ctrG_ok fun s h=>f140_ok b s h
def smallF (b:ByteArray) (lo hi:Int) (s:SRd):Int × SRd :=
  if s.bad=true then (lo,s) else if (byte1 b s).2.bad=true ∨ inB (byte1 b s).1 lo hi=false then (lo,⟨(byte1 b s).2.at_,true,s.at_⟩) else ((byte1 b s).1,(byte1 b s).2)
def num7F (b:ByteArray) (lo hi:Int) (s:SRd):Int × SRd :=
  if s.bad=true then (lo,s) else if (numF b s).2.bad=true ∨ inB (numF b s).1 lo hi=false then (lo,⟨(numF b s).2.at_,true,s.at_⟩) else ((numF b s).1,(numF b s).2)
theorem f143_ok (b:ByteArray) (lo hi:Int) (s:SRd) (h:SOK b s):GenOK Tryz.prog 143 [.ptr 0 0,.int .i64 lo,.int .i64 hi] [sBox b s] ⟨false,.int .i64 (smallF b lo hi s).1,[],[sBox b (smallF b lo hi s).2]⟩:=by
  refine fun_okG (mkE_ok zmix (cl:=[(167,c167)]) (gl:=[(187,[],c187 b)]) [] c167_ok (c187_ok b)) Tryz.func143 (by kernel_rfl) ?_
  refine FunG_run _ _ rfl rfl ?_
  obtain ⟨hs,hb⟩:=h
  have e187:=c187_eq b s (by omega)
  simp only [sBox] at e187
  have hF:=smallF.eq_1 b lo hi s
  obtain ⟨p,bad,pl⟩:=s
  simp only at hs
  cases bad with
  | true=>simp [hF]
  | false =>
    generalize byte1 b ⟨p,false,pl⟩=q at *
    obtain ⟨n,p',bad',pl'⟩:=q
    have e167:=c167_eq n lo hi
    simp only at *
    cases bad' with
    | true=>simp [e187,e167,hF]
    | false =>
      cases hi':inB n lo hi with
      | false =>
        rw [hi'] at e167
        simp [e187,e167,hF,hi']
      | true =>
        rw [hi'] at e167
        simp [e187,e167,hF,hi']
theorem f142_ok (b:ByteArray) (lo hi:Int) (s:SRd) (h:SOK b s):GenOK Tryz.prog 142 [.ptr 0 0,.int .i64 lo,.int .i64 hi] [sBox b s] ⟨false,.int .i64 (num7F b lo hi s).1,[],[sBox b (num7F b lo hi s).2]⟩:=by
  refine fun_okG (mkE_ok zmix (cl:=[(167,c167)]) (gl:=[(188,[],c188 b)]) [] c167_ok (c188_ok b)) Tryz.func142 (by kernel_rfl) ?_
  refine FunG_run _ _ rfl rfl ?_
  have e188:=c188_eq b s h
  obtain ⟨hs,hb⟩:=h
  simp only [sBox] at e188
  have hF:=num7F.eq_1 b lo hi s
  obtain ⟨p,bad,pl⟩:=s
  simp only at hs
  cases bad with
  | true=>simp [hF]
  | false =>
    generalize numF b ⟨p,false,pl⟩=q at *
    obtain ⟨n,p',bad',pl'⟩:=q
    have e167:=c167_eq n lo hi
    simp only at *
    cases bad' with
    | true=>simp [e188,e167,hF]
    | false =>
      cases hi':inB n lo hi with
      | false =>
        rw [hi'] at e167
        simp [e188,e167,hF,hi']
      | true =>
        rw [hi'] at e167
        simp [e188,e167,hF,hi']
end Go.TM.Tryz
end
section
set_option maxHeartbeats 8000000
set_option maxRecDepth 20000
namespace Go.TM.Tryz
open Go Go.TM Go.Proofs
theorem smallF_sz {b:ByteArray} {lo hi:Int} {s:SRd} (h:s.at_≤b.size):(smallF b lo hi s).2.at_≤b.size:=by
  unfold smallF
  split
  · exact h
  · split
    · exact byte1_sz h
    · exact byte1_sz h
theorem num7F_sz {b:ByteArray} {lo hi:Int} {s:SRd} (h:s.at_≤b.size):(num7F b lo hi s).2.at_≤b.size:=by
  unfold num7F
  split
  · exact h
  · split
    · exact numF_sz h
    · exact numF_sz h
def name7F (b:ByteArray) (mb:Bool) (s:SRd):ByteArray × SRd :=
  if s.bad=true then (⟨#[]⟩,s) else if mb=true∧s.at_ < b.size∧byteAt b s.at_=0 then (⟨#[]⟩,⟨s.at_ + 1,s.bad,s.place⟩)
  else ((nameF b s).1,if (nameF b s).2.bad=true then ⟨(nameF b s).2.at_,(nameF b s).2.bad,s.at_⟩ else (nameF b s).2)
theorem name7F_sz {b:ByteArray} {mb:Bool} {s:SRd} (h:s.at_≤b.size):(name7F b mb s).2.at_≤b.size:=by
  unfold name7F
  split
  · exact h
  · split
    · rename_i h'
      simp
      omega
    · have:=nameF_sz h
      split <;> exact this
theorem injSB2 {b:ByteArray} {β:Type} (out:SRd × Int × Int→β):∀ x y:SRd × Int × Int,(([V.ptr 0 0,.int .i64 x.2.1,.int .i64 x.2.2],[sBox b x.1]):List V × List V)=([.ptr 0 0,.int .i64 y.2.1,.int .i64 y.2.2],[sBox b y.1])→out x=out y:=by
  rintro ⟨⟨a,c,d⟩,i,j⟩ ⟨⟨e,f,g⟩,k,l⟩ h
  simp only [Prod.mk.injEq,List.cons.injEq,and_true,true_and,sBox,V.agg.injEq,V.int.injEq,V.bool.injEq] at h
  have h1:a=e:=by omega
  have h2:d=g:=by omega
  rw [h1,h.2.2.1,h2,h.1.1,h.1.2]
theorem injSB1 {b:ByteArray} {β:Type} (out:SRd × Bool→β):∀ x y:SRd × Bool,(([V.ptr 0 0,.bool x.2],[sBox b x.1]):List V × List V)=([.ptr 0 0,.bool y.2],[sBox b y.1])→out x=out y:=by
  rintro ⟨⟨a,c,d⟩,i⟩ ⟨⟨e,f,g⟩,k⟩ h
  simp only [Prod.mk.injEq,List.cons.injEq,and_true,true_and,sBox,V.agg.injEq,V.int.injEq,V.bool.injEq] at h
  have h1:a=e:=by omega
  have h2:d=g:=by omega
  rw [h1,h.2.2.1,h2,h.1]
noncomputable def c143 (b:ByteArray):=ctrG (fun a:SRd × Int × Int=>SOK b a.1) (fun a=>([.ptr 0 0,.int .i64 a.2.1,.int .i64 a.2.2],[sBox b a.1])) (fun a=>⟨false,.int .i64 (smallF b a.2.1 a.2.2 a.1).1,[],[sBox b (smallF b a.2.1 a.2.2 a.1).2]⟩)
theorem c143_eq (b:ByteArray) (lo hi:Int) (s:SRd) (h:SOK b s):c143 b [.ptr 0 0,.int .i64 lo,.int .i64 hi] [sBox b s]=some ⟨false,.int .i64 (smallF b lo hi s).1,[],[sBox b (smallF b lo hi s).2]⟩:=ctrG_eq (injSB2 _) (s,lo,hi) h rfl
theorem c143_ok (b:ByteArray):GOK Tryz.prog (143,[],c143 b):=ctrG_ok fun a h=>f143_ok b a.2.1 a.2.2 a.1 h
noncomputable def c142 (b:ByteArray):=ctrG (fun a:SRd × Int × Int=>SOK b a.1) (fun a=>([.ptr 0 0,.int .i64 a.2.1,.int .i64 a.2.2],[sBox b a.1])) (fun a=>⟨false,.int .i64 (num7F b a.2.1 a.2.2 a.1).1,[],[sBox b (num7F b a.2.1 a.2.2 a.1).2]⟩)
theorem c142_eq (b:ByteArray) (lo hi:Int) (s:SRd) (h:SOK b s):c142 b [.ptr 0 0,.int .i64 lo,.int .i64 hi] [sBox b s]=some ⟨false,.int .i64 (num7F b lo hi s).1,[],[sBox b (num7F b lo hi s).2]⟩:=ctrG_eq (injSB2 _) (s,lo,hi) h rfl
theorem c142_ok (b:ByteArray):GOK Tryz.prog (142,[],c142 b):=ctrG_ok fun a h=>f142_ok b a.2.1 a.2.2 a.1 h
theorem f74_ok (b:ByteArray) (mb:Bool) (s:SRd) (h:SOK b s):GenOK Tryz.prog 74 [.ptr 0 0,.bool mb] [sBox b s] ⟨false,.str (name7F b mb s).1,[],[sBox b (name7F b mb s).2]⟩:=by
  refine fun_okG (mkE_ok zmix (cl:=[]) (gl:=[(140,[],c140 b)]) [] trivial (c140_ok b)) Tryz.func74 (by kernel_rfl) ?_
  refine FunG_run _ _ rfl rfl ?_
  have e140:=c140_eq b s h
  obtain ⟨hs,hb⟩:=h
  simp only [sBox] at e140
  have hF:=name7F.eq_1 b mb s
  obtain ⟨p,bad,pl⟩:=s
  simp only at hs
  have w1:IntKind.i64.wrap ((p:Int) + 1)=(p:Int) + 1:=wrap64 (by omega) (by omega)
  cases bad with
  | true=>simp [hF]
  | false =>
    generalize nameF b ⟨p,false,pl⟩=q at *
    obtain ⟨nm,p',bad',pl'⟩:=q
    simp only at *
    have tail:mb=false ∨ ¬ p < b.size ∨ ¬ byteAt b p=0→name7F b mb ⟨p,false,pl⟩=(nm,if bad'=true then ⟨p',bad',p⟩ else ⟨p',bad',pl'⟩):=by
      intro hc
      rw [hF,if_neg (by simp),if_neg]
      rintro ⟨h1,h2,h3⟩
      rcases hc with hc | hc | hc
      · rw [h1] at hc;cases hc
      · exact hc h2
      · exact hc h3
    cases mb with
    | false =>
      rw [tail (.inl rfl)]
      cases bad' with
      | true=>simp [e140]
      | false=>simp [e140]
    | true =>
      by_cases hp:p < b.size
      · have hpi:(p:Int) < b.size:=by omega
        by_cases h0:byteAt b p=0
        · have hF2:name7F b true ⟨p,false,pl⟩=(⟨#[]⟩,⟨p + 1,false,pl⟩):=by
            rw [hF,if_neg (by simp),if_pos ⟨rfl,hp,h0⟩]
          rw [hF2]
          have h0':b.data[p].toNat=0:=by
            have:=h0
            simp only [byteAt,Array.getD] at this
            split at this
            · exact this
            · rename_i hh;exact absurd hp hh
          simp [w1,hp,hpi,h0',h0]
        · rw [tail (.inr (.inr h0))]
          have h0':¬ b.data[p].toNat=0:=by
            intro e
            apply h0
            simp only [byteAt,Array.getD]
            split
            · exact e
            · rename_i hh;exact absurd hp hh
          cases bad' with
          | true =>
            simp [e140,hp,hpi,h0',h0]
          | false =>
            simp [e140,hp,hpi,h0',h0]
      · have hpi:¬ (p:Int) < b.size:=by omega
        rw [tail (.inr (.inl hp))]
        cases bad' with
        | true=>simp [e140,hp,hpi]
        | false=>simp [e140,hp,hpi]
end Go.TM.Tryz
end
