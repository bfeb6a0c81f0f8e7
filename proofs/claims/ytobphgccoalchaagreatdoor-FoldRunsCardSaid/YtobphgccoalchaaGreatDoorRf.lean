/-
  The canonical machine: numbers without sign, as rows of bits.
-/
import Derived.Test.YtobphgccoalchaaGreatDoorRe
import Derived.OpenShut
import Derived.Shelf.SlSortCmp.InsertionK
import Derived.Sort.LotA
import Derived.Lib.AppendZerosOnto
import Derived.ProofKit
import Derived.Test.YtobphgccoalchaaGreatDoorRows
set_option linter.unusedVariables false
set_option linter.unusedSimpArgs false
set_option linter.unnecessarySimpa false
namespace Go.cf
open Go
def u {w:Nat} (a:BitVec w) :Int:=(a.toNat:Int)
@[simp] theorem m7 {w:Nat} (a:BitVec w) :BitVec.ofInt w (u a)=a:=by
 unfold u;rw[as2,au5,BitVec.setWidth_eq]
@[simp] theorem sn {w:Nat} (a b:BitVec w) :(u a=u b)<->a=b:=⟨fun h=>asd (by unfold u at h; exact Int.ofNat_inj.1 h),fun h=>by rw[h]⟩
@[simp] theorem arG {w:Nat} (a b:BitVec w) :(u a<u b)<->a<b:=by unfold u; rw[Int.ofNat_lt]; rfl
@[simp] theorem arF {w:Nat} (a b:BitVec w) :(u a<=u b)<->a<=b:=by unfold u; rw[Int.ofNat_le]; rfl
@[simp] theorem arH {w:Nat} (a:BitVec w) :0<=u a:=aua _
@[simp] theorem arI {w:Nat} (a:BitVec w) :(u a).toNat=a.toNat:=asC _
theorem arE {w:Nat} (a:BitVec w) :u a<2 ^ w:=by
 have:=a.isLt;unfold u
 exact_mod_cast this
@[simp] theorem aqS {w:Nat} (a b:Int) :BitVec.ofInt w (a - b)=BitVec.ofInt w a - BitVec.ofInt w b:=by
 rw[Int.sub_eq_add_neg,BitVec.ofInt_add,BitVec.ofInt_neg,BitVec.sub_eq_add_neg]
attribute [simp] BitVec.ofInt_add BitVec.ofInt_mul
theorem qY {w:Nat} (v:Nat) (a:BitVec w) :BitVec.ofInt v (u a)=a.setWidth v:=by
 unfold u;rw[as2,au5]
section
abbrev bA (a:BitVec 8) :ad:=.int .u8 (u a)
@[simp] theorem ET (n:Int) :IntKind.u8.wrap n=u (BitVec.ofInt 8 n) :=by
 have aR:(2 ^ IntKind.u8.bits:Int)=256:=by decide
 have c4:IntKind.u8.signed=false:=rfl;simp only[IntKind.wrap,aR,c4,asN,atb,if_false,u,aub];have:(2 ^ 8:Nat)=256:=by decide
 rw[this];omega
@[simp] theorem arP (a:Int) :so .xor (.int .u8 a)=some (.int .u8 (u (~~~(BitVec.ofInt 8 a)))) :=by
 show some (ad.int .u8 (IntKind.u8.wrap (u (BitVec.ofInt 8 (255:Int) ^^^ BitVec.ofInt 8 a))))=_;rw[ET,m7];have:BitVec.ofInt 8 (255:Int)=BitVec.allOnes 8:=by decide
 rw[this,auz]
theorem Y5 (a:BitVec 8) (k' : IntKind) (n:Nat) :cB .shl .u8 (u a) k' (n:Int)=some (.int .u8 (u (a <<< n))) :=by
 have aB:¬((n:Int)<0) :=by omega
 show (if (n:Int)<0 then none else some (ad.int .u8 (IntKind.u8.wrap ((a.toNat:Int)*2 ^ min (n:Int).toNat 8))))=_;rw[if_neg aB];congr 2;rw[ET,asC];unfold u;congr 1;have:((a.toNat:Int)*2 ^ min n 8)=((a.toNat*2 ^ min n 8:Nat) :Int) :=by rw[Int.natCast_mul,atR]; rfl
 rw[this,as2,asn,ats,atn];rcases as3 n 8 with h | h
 ·rw[asR (atr h)]
 ·rw[atN h];have h1:a.toNat*2 ^ 8 % 2 ^ 8=0:=auJ _ _;obtain⟨m,rfl⟩:=at6 h;rw[h1,at2,auC,auD]
theorem Y8 (a:BitVec 8) (k' : IntKind) (n:Nat) :cB .shr .u8 (u a) k' (n:Int)=some (.int .u8 (u (a >>> n))) :=by
 have aB:¬((n:Int)<0) :=by omega
 show (if (n:Int)<0 then none else some (ad.int .u8 ((a.toNat:Int).fdiv (2 ^ min (n:Int).toNat 8))))=_;rw[if_neg aB];congr 2;rw[asC];unfold u;have:((2:Int) ^ min n 8)=((2 ^ min n 8:Nat) :Int) :=by rw[atR]; rfl
 rw[this,atL _ (aua _),<-auK,asH,aso];congr 1;rcases as3 n 8 with h | h
 ·rw[asR (atr h)]
 ·rw[atN h,att a.isLt,att (atB a.isLt (aum (by omega) h))]
@[simp] theorem ame (a:BitVec 8) (k' : IntKind) (n:Int) (h:0<=n) :cB .shl .u8 (u a) k' n=some (.int .u8 (u (a <<< n.toNat))) :=by
 obtain⟨m,rfl⟩:=asQ h;exact Y5 a k' m
@[simp] theorem ami (a:BitVec 8) (k' : IntKind) (n:Int) (h:0<=n) :cB .shr .u8 (u a) k' n=some (.int .u8 (u (a >>> n.toNat))) :=by
 obtain⟨m,rfl⟩:=asQ h;exact Y8 a k' m
@[simp] theorem ama (a b:BitVec 8) (h:b≠0#8) :cB .rem .u8 (u a) .u8 (u b)=some (.int .u8 (u (a % b))) :=by
 have ag:(b.toNat:Int)≠0:=fun e=>h (asd (by simpa using e))
 show (if IntKind.u8=IntKind.u8/\(b.toNat:Int)≠0 then some (ad.int .u8 ((a.toNat:Int).tmod b.toNat)) else none)=_;rw[if_pos ⟨rfl,ag⟩];unfold u;rw[ata];rfl
@[simp] theorem amq (a b:Int) :cB .xor .u8 a .u8 b=some (.int .u8 (u (BitVec.ofInt 8 a ^^^ BitVec.ofInt 8 b))) :=by
 show some (ad.int .u8 (IntKind.u8.wrap (u (BitVec.ofInt 8 a ^^^ BitVec.ofInt 8 b))))=_;rw[ET,m7]
@[simp] theorem al8 (a b:Int) :cB .or .u8 a .u8 b=some (.int .u8 (u (BitVec.ofInt 8 a ||| BitVec.ofInt 8 b))) :=by
 show some (ad.int .u8 (IntKind.u8.wrap (u (BitVec.ofInt 8 a ||| BitVec.ofInt 8 b))))=_;rw[ET,m7]
@[simp] theorem alR (a b:Int) :cB .and .u8 a .u8 b=some (.int .u8 (u (BitVec.ofInt 8 a &&& BitVec.ofInt 8 b))) :=by
 show some (ad.int .u8 (IntKind.u8.wrap (u (BitVec.ofInt 8 a &&& BitVec.ofInt 8 b))))=_;rw[ET,m7]
end

section
abbrev Fv (a:BitVec 16) :ad:=.int .u16 (u a)
@[simp] theorem ES (n:Int) :IntKind.u16.wrap n=u (BitVec.ofInt 16 n) :=by
 have aR:(2 ^ IntKind.u16.bits:Int)=65536:=by decide
 have c4:IntKind.u16.signed=false:=rfl;simp only[IntKind.wrap,aR,c4,asN,atb,if_false,u,aub];have:(2 ^ 16:Nat)=65536:=by decide
 rw[this];omega
@[simp] theorem arM (a:Int) :so .xor (.int .u16 a)=some (.int .u16 (u (~~~(BitVec.ofInt 16 a)))) :=by
 show some (ad.int .u16 (IntKind.u16.wrap (u (BitVec.ofInt 16 (65535:Int) ^^^ BitVec.ofInt 16 a))))=_;rw[ES,m7];have:BitVec.ofInt 16 (65535:Int)=BitVec.allOnes 16:=by decide
 rw[this,auz]
theorem Y3 (a:BitVec 16) (k' : IntKind) (n:Nat) :cB .shl .u16 (u a) k' (n:Int)=some (.int .u16 (u (a <<< n))) :=by
 have aB:¬((n:Int)<0) :=by omega
 show (if (n:Int)<0 then none else some (ad.int .u16 (IntKind.u16.wrap ((a.toNat:Int)*2 ^ min (n:Int).toNat 16))))=_;rw[if_neg aB];congr 2;rw[ES,asC];unfold u;congr 1;have:((a.toNat:Int)*2 ^ min n 16)=((a.toNat*2 ^ min n 16:Nat) :Int) :=by rw[Int.natCast_mul,atR]; rfl
 rw[this,as2,asn,ats,atn];rcases as3 n 16 with h | h
 ·rw[asR (atr h)]
 ·rw[atN h];have h1:a.toNat*2 ^ 16 % 2 ^ 16=0:=auJ _ _;obtain⟨m,rfl⟩:=at6 h;rw[h1,at2,auC,auD]
theorem Y6 (a:BitVec 16) (k' : IntKind) (n:Nat) :cB .shr .u16 (u a) k' (n:Int)=some (.int .u16 (u (a >>> n))) :=by
 have aB:¬((n:Int)<0) :=by omega
 show (if (n:Int)<0 then none else some (ad.int .u16 ((a.toNat:Int).fdiv (2 ^ min (n:Int).toNat 16))))=_;rw[if_neg aB];congr 2;rw[asC];unfold u;have:((2:Int) ^ min n 16)=((2 ^ min n 16:Nat) :Int) :=by rw[atR]; rfl
 rw[this,atL _ (aua _),<-auK,asH,aso];congr 1;rcases as3 n 16 with h | h
 ·rw[asR (atr h)]
 ·rw[atN h,att a.isLt,att (atB a.isLt (aum (by omega) h))]
@[simp] theorem amb (a:BitVec 16) (k' : IntKind) (n:Int) (h:0<=n) :cB .shl .u16 (u a) k' n=some (.int .u16 (u (a <<< n.toNat))) :=by
 obtain⟨m,rfl⟩:=asQ h;exact Y3 a k' m
@[simp] theorem amf (a:BitVec 16) (k' : IntKind) (n:Int) (h:0<=n) :cB .shr .u16 (u a) k' n=some (.int .u16 (u (a >>> n.toNat))) :=by
 obtain⟨m,rfl⟩:=asQ h;exact Y6 a k' m
@[simp] theorem al9 (a b:BitVec 16) (h:b≠0#16) :cB .rem .u16 (u a) .u16 (u b)=some (.int .u16 (u (a % b))) :=by
 have ag:(b.toNat:Int)≠0:=fun e=>h (asd (by simpa using e))
 show (if IntKind.u16=IntKind.u16/\(b.toNat:Int)≠0 then some (ad.int .u16 ((a.toNat:Int).tmod b.toNat)) else none)=_;rw[if_pos ⟨rfl,ag⟩];unfold u;rw[ata];rfl
@[simp] theorem amn (a b:Int) :cB .xor .u16 a .u16 b=some (.int .u16 (u (BitVec.ofInt 16 a ^^^ BitVec.ofInt 16 b))) :=by
 show some (ad.int .u16 (IntKind.u16.wrap (u (BitVec.ofInt 16 a ^^^ BitVec.ofInt 16 b))))=_;rw[ES,m7]
@[simp] theorem al5 (a b:Int) :cB .or .u16 a .u16 b=some (.int .u16 (u (BitVec.ofInt 16 a ||| BitVec.ofInt 16 b))) :=by
 show some (ad.int .u16 (IntKind.u16.wrap (u (BitVec.ofInt 16 a ||| BitVec.ofInt 16 b))))=_;rw[ES,m7]
@[simp] theorem alP (a b:Int) :cB .and .u16 a .u16 b=some (.int .u16 (u (BitVec.ofInt 16 a &&& BitVec.ofInt 16 b))) :=by
 show some (ad.int .u16 (IntKind.u16.wrap (u (BitVec.ofInt 16 a &&& BitVec.ofInt 16 b))))=_;rw[ES,m7]
end

section
abbrev bC (a:BitVec 32) :ad:=.int .u32 (u a)
@[simp] theorem BT (n:Int) :IntKind.u32.wrap n=u (BitVec.ofInt 32 n) :=by
 have aR:(2 ^ IntKind.u32.bits:Int)=4294967296:=by decide
 have c4:IntKind.u32.signed=false:=rfl;simp only[IntKind.wrap,aR,c4,asN,atb,if_false,u,aub];have:(2 ^ 32:Nat)=4294967296:=by decide
 rw[this];omega
@[simp] theorem arN (a:Int) :so .xor (.int .u32 a)=some (.int .u32 (u (~~~(BitVec.ofInt 32 a)))) :=by
 show some (ad.int .u32 (IntKind.u32.wrap (u (BitVec.ofInt 32 (4294967295:Int) ^^^ BitVec.ofInt 32 a))))=_;rw[BT,m7];have:BitVec.ofInt 32 (4294967295:Int)=BitVec.allOnes 32:=by decide
 rw[this,auz]
theorem Y4 (a:BitVec 32) (k' : IntKind) (n:Nat) :cB .shl .u32 (u a) k' (n:Int)=some (.int .u32 (u (a <<< n))) :=by
 have aB:¬((n:Int)<0) :=by omega
 show (if (n:Int)<0 then none else some (ad.int .u32 (IntKind.u32.wrap ((a.toNat:Int)*2 ^ min (n:Int).toNat 32))))=_;rw[if_neg aB];congr 2;rw[BT,asC];unfold u;congr 1;have:((a.toNat:Int)*2 ^ min n 32)=((a.toNat*2 ^ min n 32:Nat) :Int) :=by rw[Int.natCast_mul,atR]; rfl
 rw[this,as2,asn,ats,atn];rcases as3 n 32 with h | h
 ·rw[asR (atr h)]
 ·rw[atN h];have h1:a.toNat*2 ^ 32 % 2 ^ 32=0:=auJ _ _;obtain⟨m,rfl⟩:=at6 h;rw[h1,at2,auC,auD]
theorem Y7 (a:BitVec 32) (k' : IntKind) (n:Nat) :cB .shr .u32 (u a) k' (n:Int)=some (.int .u32 (u (a >>> n))) :=by
 have aB:¬((n:Int)<0) :=by omega
 show (if (n:Int)<0 then none else some (ad.int .u32 ((a.toNat:Int).fdiv (2 ^ min (n:Int).toNat 32))))=_;rw[if_neg aB];congr 2;rw[asC];unfold u;have:((2:Int) ^ min n 32)=((2 ^ min n 32:Nat) :Int) :=by rw[atR]; rfl
 rw[this,atL _ (aua _),<-auK,asH,aso];congr 1;rcases as3 n 32 with h | h
 ·rw[asR (atr h)]
 ·rw[atN h,att a.isLt,att (atB a.isLt (aum (by omega) h))]
@[simp] theorem amc (a:BitVec 32) (k' : IntKind) (n:Int) (h:0<=n) :cB .shl .u32 (u a) k' n=some (.int .u32 (u (a <<< n.toNat))) :=by
 obtain⟨m,rfl⟩:=asQ h;exact Y4 a k' m
@[simp] theorem amg (a:BitVec 32) (k' : IntKind) (n:Int) (h:0<=n) :cB .shr .u32 (u a) k' n=some (.int .u32 (u (a >>> n.toNat))) :=by
 obtain⟨m,rfl⟩:=asQ h;exact Y7 a k' m
@[simp] theorem Y1 (a b:BitVec 32) (h:b≠0#32) :cB .rem .u32 (u a) .u32 (u b)=some (.int .u32 (u (a % b))) :=by
 have ag:(b.toNat:Int)≠0:=fun e=>h (asd (by simpa using e))
 show (if IntKind.u32=IntKind.u32/\(b.toNat:Int)≠0 then some (ad.int .u32 ((a.toNat:Int).tmod b.toNat)) else none)=_;rw[if_pos ⟨rfl,ag⟩];unfold u;rw[ata];rfl
@[simp] theorem amo (a b:Int) :cB .xor .u32 a .u32 b=some (.int .u32 (u (BitVec.ofInt 32 a ^^^ BitVec.ofInt 32 b))) :=by
 show some (ad.int .u32 (IntKind.u32.wrap (u (BitVec.ofInt 32 a ^^^ BitVec.ofInt 32 b))))=_;rw[BT,m7]
@[simp] theorem al6 (a b:Int) :cB .or .u32 a .u32 b=some (.int .u32 (u (BitVec.ofInt 32 a ||| BitVec.ofInt 32 b))) :=by
 show some (ad.int .u32 (IntKind.u32.wrap (u (BitVec.ofInt 32 a ||| BitVec.ofInt 32 b))))=_;rw[BT,m7]
@[simp] theorem alQ (a b:Int) :cB .and .u32 a .u32 b=some (.int .u32 (u (BitVec.ofInt 32 a &&& BitVec.ofInt 32 b))) :=by
 show some (ad.int .u32 (IntKind.u32.wrap (u (BitVec.ofInt 32 a &&& BitVec.ofInt 32 b))))=_;rw[BT,m7]
end

section
abbrev cU (a:BitVec 64) :ad:=.int .u64 (u a)
@[simp] theorem vr (n:Int) :IntKind.u64.wrap n=u (BitVec.ofInt 64 n) :=by
 have aR:(2 ^ IntKind.u64.bits:Int)=18446744073709551616:=by decide
 have c4:IntKind.u64.signed=false:=rfl;simp only[IntKind.wrap,aR,c4,asN,atb,if_false,u,aub];have:(2 ^ 64:Nat)=18446744073709551616:=by decide
 rw[this];omega
@[simp] theorem arO (a:Int) :so .xor (.int .u64 a)=some (.int .u64 (u (~~~(BitVec.ofInt 64 a)))) :=by
 show some (ad.int .u64 (IntKind.u64.wrap (u (BitVec.ofInt 64 (18446744073709551615:Int) ^^^ BitVec.ofInt 64 a))))=_;rw[vr,m7];have:BitVec.ofInt 64 (18446744073709551615:Int)=BitVec.allOnes 64:=by decide
 rw[this,auz]
theorem PN (a:BitVec 64) (k' : IntKind) (n:Nat) :cB .shl .u64 (u a) k' (n:Int)=some (.int .u64 (u (a <<< n))) :=by
 have aB:¬((n:Int)<0) :=by omega
 show (if (n:Int)<0 then none else some (ad.int .u64 (IntKind.u64.wrap ((a.toNat:Int)*2 ^ min (n:Int).toNat 64))))=_;rw[if_neg aB];congr 2;rw[vr,asC];unfold u;congr 1;have:((a.toNat:Int)*2 ^ min n 64)=((a.toNat*2 ^ min n 64:Nat) :Int) :=by rw[Int.natCast_mul,atR]; rfl
 rw[this,as2,asn,ats,atn];rcases as3 n 64 with h | h
 ·rw[asR (atr h)]
 ·rw[atN h];have h1:a.toNat*2 ^ 64 % 2 ^ 64=0:=auJ _ _;obtain⟨m,rfl⟩:=at6 h;rw[h1,at2,auC,auD]
theorem uh (a:BitVec 64) (k' : IntKind) (n:Nat) :cB .shr .u64 (u a) k' (n:Int)=some (.int .u64 (u (a >>> n))) :=by
 have aB:¬((n:Int)<0) :=by omega
 show (if (n:Int)<0 then none else some (ad.int .u64 ((a.toNat:Int).fdiv (2 ^ min (n:Int).toNat 64))))=_;rw[if_neg aB];congr 2;rw[asC];unfold u;have:((2:Int) ^ min n 64)=((2 ^ min n 64:Nat) :Int) :=by rw[atR]; rfl
 rw[this,atL _ (aua _),<-auK,asH,aso];congr 1;rcases as3 n 64 with h | h
 ·rw[asR (atr h)]
 ·rw[atN h,att a.isLt,att (atB a.isLt (aum (by omega) h))]
@[simp] theorem amd (a:BitVec 64) (k' : IntKind) (n:Int) (h:0<=n) :cB .shl .u64 (u a) k' n=some (.int .u64 (u (a <<< n.toNat))) :=by
 obtain⟨m,rfl⟩:=asQ h;exact PN a k' m
@[simp] theorem amh (a:BitVec 64) (k' : IntKind) (n:Int) (h:0<=n) :cB .shr .u64 (u a) k' n=some (.int .u64 (u (a >>> n.toNat))) :=by
 obtain⟨m,rfl⟩:=asQ h;exact uh a k' m
@[simp] theorem zT (a b:BitVec 64) (h:b≠0#64) :cB .rem .u64 (u a) .u64 (u b)=some (.int .u64 (u (a % b))) :=by
 have ag:(b.toNat:Int)≠0:=fun e=>h (asd (by simpa using e))
 show (if IntKind.u64=IntKind.u64/\(b.toNat:Int)≠0 then some (ad.int .u64 ((a.toNat:Int).tmod b.toNat)) else none)=_;rw[if_pos ⟨rfl,ag⟩];unfold u;rw[ata];rfl
@[simp] theorem amp (a b:Int) :cB .xor .u64 a .u64 b=some (.int .u64 (u (BitVec.ofInt 64 a ^^^ BitVec.ofInt 64 b))) :=by
 show some (ad.int .u64 (IntKind.u64.wrap (u (BitVec.ofInt 64 a ^^^ BitVec.ofInt 64 b))))=_;rw[vr,m7]
@[simp] theorem al7 (a b:Int) :cB .or .u64 a .u64 b=some (.int .u64 (u (BitVec.ofInt 64 a ||| BitVec.ofInt 64 b))) :=by
 show some (ad.int .u64 (IntKind.u64.wrap (u (BitVec.ofInt 64 a ||| BitVec.ofInt 64 b))))=_;rw[vr,m7]
@[simp] theorem PC (a b:Int) :cB .and .u64 a .u64 b=some (.int .u64 (u (BitVec.ofInt 64 a &&& BitVec.ofInt 64 b))) :=by
 show some (ad.int .u64 (IntKind.u64.wrap (u (BitVec.ofInt 64 a &&& BitVec.ofInt 64 b))))=_;rw[vr,m7]
end
@[simp] theorem amX (a:BitVec 8) :BitVec.ofInt 16 (u a)=a.setWidth 16:=qY 16 a
@[simp] theorem amY (a:BitVec 8) :BitVec.ofInt 32 (u a)=a.setWidth 32:=qY 32 a
@[simp] theorem amZ (a:BitVec 8) :BitVec.ofInt 64 (u a)=a.setWidth 64:=qY 64 a
@[simp] theorem amQ (a:BitVec 16) :BitVec.ofInt 8 (u a)=a.setWidth 8:=qY 8 a
@[simp] theorem amO (a:BitVec 16) :BitVec.ofInt 32 (u a)=a.setWidth 32:=qY 32 a
@[simp] theorem amP (a:BitVec 16) :BitVec.ofInt 64 (u a)=a.setWidth 64:=qY 64 a
@[simp] theorem amT (a:BitVec 32) :BitVec.ofInt 8 (u a)=a.setWidth 8:=qY 8 a
@[simp] theorem amR (a:BitVec 32) :BitVec.ofInt 16 (u a)=a.setWidth 16:=qY 16 a
@[simp] theorem amS (a:BitVec 32) :BitVec.ofInt 64 (u a)=a.setWidth 64:=qY 64 a
@[simp] theorem amW (a:BitVec 64) :BitVec.ofInt 8 (u a)=a.setWidth 8:=qY 8 a
@[simp] theorem amU (a:BitVec 64) :BitVec.ofInt 16 (u a)=a.setWidth 16:=qY 16 a
@[simp] theorem amV (a:BitVec 64) :BitVec.ofInt 32 (u a)=a.setWidth 32:=qY 32 a
@[simp] theorem arJ {w:Nat}:u (0#w)=0:=by simp[u]
theorem JA (k:Nat) (c:Int) (ah:0<c) (hk:k<9223372036854775808) :cB .quo .i64 (k:Int) .i64 c=some (.int .i64 ((k / c.toNat:Nat) :Int)) :=by
 obtain⟨m,rfl⟩:=asQ (Int.le_of_lt ah);have hm:(m:Int)≠0:=by omega
 show (if IntKind.i64=IntKind.i64/\(m:Int)≠0 then some (ad.int .i64 (IntKind.i64.wrap ((k:Int).tdiv m))) else none)=_;rw[if_pos ⟨rfl,hm⟩,asC];have:((k:Int).tdiv m)=((k / m:Nat) :Int) :=rfl;have ae:=avs k m;rw[this];generalize k / m=q at ae;rw[wrap_i64 (by omega) (by omega)]
theorem Fi (k:Nat) (c:Int) (ah:0<c) :cB .rem .i64 (k:Int) .i64 c=some (.int .i64 ((k % c.toNat:Nat) :Int)) :=by
 obtain⟨m,rfl⟩:=asQ (Int.le_of_lt ah);have hm:(m:Int)≠0:=by omega
 show (if IntKind.i64=IntKind.i64/\(m:Int)≠0 then some (ad.int .i64 ((k:Int).tmod m)) else none)=_;rw[if_pos ⟨rfl,hm⟩,asC];rfl
theorem VZ (k:IntKind) (w n:Nat) :rep n (.int k 0)=(List.replicate n (0#w)).map fun x=>.int k (u x) :=by
 simp[rep]
theorem oW {α:Type} (f:α->ad) (l:List α) (i:Nat) (x:α) (h:i<l.length) :bt (l.map f) i [f x]=(l.set i x).map f:=by
 unfold bt;rw[atw,if_pos h];simp
theorem oj {cs vs:List ad} (h:vs.length=cs.length) :bt cs 0 vs=vs:=by
 unfold bt;rw[as8,atm,asO,h,avg,asD]
theorem aK {l:ap} {c c' : ad} (h:c=c') (ah:c'.closed=true) :Rd l c c':=by subst h; exact .same _ ah
theorem Aj {α:Type} {z:Nat}:∀ (es:List (List α)),(∀ e∈es,e.length=z)->∀ (i j:Nat) (e:List α) (c:α),es[i]? = some e->e[j]? = some c->es.flatten[i*z+j]? = some c:=by
 intro es av
 induction es with
 | nil=>intro i j e c ao; simp at ao
 | cons x es aO=>
  intro i j e c ao aj;have ai:x.length=z:=av x (by simp);cases i with
  | zero=>
   simp only[asw,Option.some.injEq] at ao;subst ao;rw[as4,aug,as8,arZ (arY.1 aj).1];exact aj
  | succ i=>
   simp only[asP] at ao;rw[as4,ar8 (by rw[ai,asB]; omega),ai,show (i+1)*z+j - z=i*z+j by rw[asB]; omega];exact aO (fun e ao=>av e (by simp[ao])) i j e c ao aj
inductive ua (l:ap) :List ad->List ad->Prop
 | nil:ua l [] []
 | cons {c c' cs cs'}:go (b8 l) c c'->ua l cs cs'->ua l (c::cs) (c'::cs')
theorem ua.len {l:ap}:∀ {a b:List ad},ua l a b->b.length=a.length
 | _,_,.nil=>rfl
 | _,_,.cons _ h=>by simp[h.len]
theorem ua.get {l:ap}:∀ {a b:List ad},ua l a b->∀ (j:Nat) (c c' : ad),a[j]? = some c->b[j]? = some c'->go (b8 l) c c'
 | _,_,.nil,j,c,c',h,_=>by simp at h
 | _,_,.cons h1 ae,j,c,c',h,h'=>by
  cases j with
  | zero=>simp at h h'; subst h h'; exact h1
  | succ j=>exact ae.get j c c' (by simpa using h) (by simpa using h')
theorem iW {P:Program} {G:Nat->ad} {f:FuncId} {args kF:List ad} {r:ad} {l:ap} {K:ad->ap->Prop} (aC:bx P G f kF r) (aA:ua l args kF) (aD:r.flat=true) (h:K r l) :dr P G f args l (c:=⟨K⟩) :=
 ⟨r,l,.Vm aC aA.len aA.get aD,ar0 _,h⟩
theorem Vo {P:Program} {G:Nat->ad} {f:FuncId} {args kF:List ad} {r:ad} {l:ap} {K:ad->ap->Prop} (aC:p1 P G f kF r) (aA:ua l args kF) (h:K r l) :dr P G f args l (c:=⟨K⟩) :=
 ⟨r,l,.Vn aC aA.len aA.get,ar0 _,h⟩
inductive lz (l:ap) :ad->ad->Prop
 | flat (c:ad) (h:c.flat=true) :lz l c c
 | aI (cs cs' : List ad) (am:cs'.length=cs.length) (h:∀ (j:Nat) (c c' : ad),cs[j]? = some c->cs'[j]? = some c'->lz l c c') :lz l (.aI cs) (.aI cs')
 | bJ (cs cs' : List ad) (am:cs'.length=cs.length) (h:∀ (j:Nat) (c c' : ad),cs[j]? = some c->cs'[j]? = some c'->lz l c c') :lz l (.bJ cs) (.bJ cs')
 | au (z b off len cap sz:Nat) (cs:List ad) (es:List (List ad)) (ag:l[b]? = some (.cells sz cs)) (am:es.length=len) (av:∀ e∈es,e.length=z)
   (cZ:off+len*z<=cs.length)
   (h:∀ (i j:Nat) (e:List ad) (c c' : ad),es[i]? = some e->e[j]? = some c'->cs[off+(i*z+j)]? = some c->lz l c c') :lz l (.au z b off len cap sz) (.cq z es)
 | vk (z b off cap sz:Nat) :lz l (.au z b off 0 cap sz) (.cq z [])
 | fY (z:Nat) :lz l (.cq z []) (.cq z [])
theorem aia {w:World} {R:Nat->Prop} {B:Nat} {l:ap} {μ:cR} (rel:cc R B w (b8 l) μ) :∀ {c c' : ad},lz l c c'->∀ {v:Value},aS w R (b8 l) μ c v->fO w (fun k=>B<=k) c' v:=by
 intro c c' aA
 induction aA with
 | flat c h=>intro v aw; exact QS aw h
 | aI cs cs' am h aO=>
  intro v aw;cases aw with
  | aI _ vs gj h1 aw=>
   refine .aI cs' vs (by omega) h1 (fun j c' v aj fG=>?_);have aM:j<cs.length:=by rw[<-am]; exact (arY.1 aj).1
   exact aO j cs[j] c' (ar1 aM) aj (aw j cs[j] v (ar1 aM) fG)
 | bJ cs cs' am h aO=>
  intro v aw;cases aw with
  | bJ _ vs gj aw=>
   refine .bJ cs' vs (by omega) (fun j c' v aj fG=>?_);have aM:j<cs.length:=by rw[<-am]; exact (arY.1 aj).1
   exact aO j cs[j] c' (ar1 aM) aj (aw j cs[j] v (ar1 aM) fG)
 | vk z b off cap sz=>
  intro v aw;cases aw with
  | au _ _ _ _ _ _ cap' cs m ag hm am aq ah=>exact .fY z _ cap'
  | gX _ _ _ _ _ _ cap' a am ah ar=>exact .fY z _ cap'
  | ik _ _ _ _ a cs m ag hm=>exact .fY z a 0
 | fY z=>
  intro v aw;generalize ao:([] :List (List ad))=es at aw;generalize Az:ad.cq z es=xS at aw;cases aw<;>cases Az
  ·subst ao; exact .fY z _ _
  ·exact .fY z _ _
 | au z b off len cap sz cs es ag am av cZ h aO=>
  intro v aw;have rF:(b8 l).f b=.cells sz cs:=ly.2 ag;cases aw with
  | ik _ _ _ _ a hW m fm i6=>
   obtain rfl:=asF.1 am;exact .fY z a 0
  | gX _ _ _ _ _ _ cap' a am ah ar=>
   exfalso;rcases ar with ar | ⟨n,hW,ar,aM⟩
   ·rw[rF] at ar; cases ar
   ·rw[rF] at ar; cases ar; omega
  | au _ _ _ _ _ _ cap' hW m fm hm gk aq ah=>
   rw[rF] at fm; cases fm;have hblk:=rel.blk b m hm;rw[rF] at hblk;obtain⟨cb,cM,arr,t,gB,hw,az,aD,np⟩:=hblk;have c9:len<=cap':=by rcases ah with ⟨_,h⟩ | ⟨_,h,_⟩<;>omega
   have pk:B<=m.r:=rel.base b m (by rw[rF]; rfl) hm;subst am;have nY:∀ i j,i<es.length->j<z->∃ c v,cs[off+(i*z+j)]? = some c/\arr[m.s+(off+(i*z+j))]? = some v/\v.oneCell'=true/\aS w R (b8 l) μ c v:=by
    intro i j ax aj;have aM:off+(i*z+j)<cs.length:=by
     have:i*z+z<=es.length*z:=by rw[<-asB]; exact ar2 _ ax
     omega
    obtain⟨v,h1,ae,al⟩:=np _ _ (ar1 aM);exact⟨_,v,ar1 aM,h1,ae,al⟩
   refine .cq z es m.r (m.s+off) cap' (fun i j=>(arr[m.s+(off+(i*z+j))]?).getD undef) c9 av (fun i j ax aj=>?_) (fun i e ao j c' aj=>?_)
   ·obtain⟨c,v,h1,ae,al,aE⟩:=nY i j ax aj;refine⟨?_,?_,pk,fun ⟨b,m,h1,ae,al⟩=>by cases ae⟩
    ·simp only[World.cell?,hw,ae,asT,atU];rw[show m.s+off+(i*z+j)=m.s+(off+(i*z+j)) by omega,ae]; rfl
    ·rw[ae]; exact al
   ·have ax:i<es.length:=(arY.1 ao).1;have qz:j<z:=by rw[<-av e (ar4 ao)]; exact (arY.1 aj).1
    obtain⟨c,v,h1,ae,al,aE⟩:=nY i j ax qz;simp only[ae,asT];exact aO i j e c c' ao aj h1 aE
theorem Eh {P:Program} {G:Nat->ad} (n2:P.follows .mixedOrders=true) (ma:∀ g,(G g).closed=true) {f:FuncId} {args:List ad} {r:ad} (h:dr P G f args [] (c:=⟨fun lY l=>lz l lY r⟩)) :p1 P G f args r:=by
 obtain⟨lY,l',h1,ae,al⟩:=h;intro w A vs ar am aw;refine (OB (A:=A) n2 ma h1 ar am aw).mono ?_;rintro e w' ⟨v,μ',rfl,ag,rel,aA⟩;exact⟨v,rfl,ag,aia rel al aA⟩
theorem VQ {l:ap} {z b n cap sz:Nat} {es:List (List ad)} {rest:List ad} (ag:l[b]? = some (.cells sz (es.flatten++rest))) (aF:es.length=n) (av:∀ e∈es,e.length=z) (ah:∀ e∈es,mL e=true) :lz l (.au z b 0 n cap sz) (.cq z es) :=by
 have eo:=mM (z:=z) (es:=es) (fun e ao=>av e ao);refine .au z b 0 n cap sz _ es ag aF av (by rw[asa,eo,aF]; omega) (fun i j e c c' ao aj du=>?_);have ax:i<es.length:=(arY.1 ao).1;have qz:j<z:=by rw[<-av e (ar4 ao)]; exact (arY.1 aj).1
 have aM:i*z+j<es.flatten.length:=by
  rw[eo];have:i*z+z<=es.length*z:=by rw[<-asB]; exact ar2 _ ax
  omega
 have h1:es.flatten[i*z+j]? = some c':=Aj es av i j e c' ao aj;rw[as8,arZ aM,h1] at du;cases du;exact .flat _ (FO (ah e (ar4 ao)) j _ aj)
theorem VN {l:ap} {c:ad} (h:c.closed=true) :go (b8 l) c c:=.same c h
@[simp] theorem aoN (n z:Nat) (cs:List ad) (k:IntKind) (i:Int) :Hy n z (.aI cs) (.int k i)=if 0<=i/\i<n then cs[i.toNat*z]? else none:=id rfl
@[simp] theorem aoO (n z:Nat) (cs:List ad) (k:IntKind) (i:Int) :Hz n z (.aI cs) (.int k i)=if 0<=i/\i<n then vc z cs (i.toNat*z) else none:=id rfl
@[simp] theorem Bh (s:List UInt8) (k:IntKind) (i:Int) :Bg (.str s) (.int k i)=if 0<=i then (s[i.toNat]?).map jS else none:=id rfl
theorem aiZ {α:Type} {l:List α} {i:Nat} {x:α} (h:l[i]? = some x) :l.set i x=l:=by
 obtain⟨ax,rfl⟩:=arY.1 h;exact List.set_getElem_self ax
theorem lD {α:Type} (f:α->ad) (aD:∀ x,(f x).closed=true) :∀ l:List α,aZ (l.map f)=true
 | []=>rfl
 | x::l=>by simp only[ast,aZ,aD,lD f aD l,atK]
theorem P1 {α:Type} (f:α->ad) (aD:∀ x,(f x).closed=true) (l:List α) :(ad.aI (l.map f)).closed=true:=by simp only[ad.closed]; exact lD f aD l
theorem Ah {α:Type} (f:α->ad) (aD:∀ x,(f x).flat=true) :∀ l:List α,mL (l.map f)=true
 | []=>rfl
 | x::l=>by simp only[ast,mL,aD,Ah f aD l,atK]
theorem QQ {α:Type} (f:α->ad) (aD:∀ x,(f x).flat=true) (l:List α) :(ad.aI (l.map f)).flat=true:=by simp only[ad.flat]; exact Ah f aD l
@[simp] theorem amt (z:Nat) :vO (.au z) .aV=some (.int .i64 0) :=id rfl
@[simp] theorem ams (n z:Nat) (x:ad) :vO (.arr n z) x=some (.int .i64 n) :=id rfl
theorem arv (z:Nat) (c0 ax cX:Option ad) :gS (.au z) .aV c0 ax cX=(g1 0 0 c0 ax cX).map fun _=>.aV:=rfl
@[simp] theorem arw (z:Nat) (k:IntKind) :gS (.au z) .aV none (some (.int k 0)) none=some .aV:=id rfl
theorem zp (z b off len cap sz:Nat) (c0 ax cX:Option ad) :gS (.au z) (.au z b off len cap sz) c0 ax cX=(g1 len cap c0 ax cX).map fun (l,aH,m)=>if m=l then .au z b (off+l*z) 0 0 sz else .au z b (off+l*z) (aH - l) (m - l) sz:=by
 simp[gS]
theorem D9 {α:Type} {l:List α} {a:α} (h:l[0]? = some a) :∃ r,l=a::r:=by
 cases l with
 | nil=>simp at h
 | cons x l=>simp at h; subst h; exact⟨l,rfl⟩
theorem akc {α:Type} {l:List α} {b:α} (h:l[1]? = some b) :∃ a r,l=a::b::r:=by
 cases l with
 | nil=>simp at h
 | cons x l=>obtain⟨r,rfl⟩:=D9 (l:=l) (by simpa using h); exact⟨x,r,rfl⟩
theorem BA (zero:List ad) (n:Nat) :(dZ zero n).length=n*zero.length:=by
 induction n with
 | zero=>simp[dZ]
 | succ n aO=>simp[dZ,aO,asB,avd]
theorem Is (zero:List ad) (n:Nat) :dZ zero n=(List.replicate n zero).flatten:=by
 induction n with
 | zero=>rfl
 | succ n aO=>rw[dZ,aO,atd,as4]
inductive bB (z:Nat) (l:ap) :ad->Nat->List (List ad)->Prop
 | nil (j:Nat) :bB z l .aV j []
 | au (j n cap sz:Nat) (cs:List ad) (es:List (List ad)) (ag:l[j]? = some (.cells sz cs)) (am:cs.length=sz) (aF:es.length=n) (av:∀ e∈es,e.length=z) (ah:n<=cap) (c9:cap*z<=sz)
   (cb:cs.take (n*z)=es.flatten) :bB z l (.au z j 0 n cap sz) j es
def cx:ad->Bool | .aV=>true | _=>false
theorem jC {v:ad}:cx v=true<->v=.aV:=by cases v<;>simp[cx]
theorem uX {α:Type} {v a8:ad} {xs:List α} (h:a8=.aV<->v=.aV/\xs=[]) :cx a8=(cx v&&xs.isEmpty) :=by
 rw[auc,jC,h,ar3,jC,auL]
def tK (z:Nat) (v:ad) (es:List (List ad)) :ad:=match cx v with | true=>.aV | false=>.cq z es
section
variable {z:Nat} {l l' : ap} {v:ad} {j:Nat} {es:List (List ad)}
theorem bB.lt (h:bB z l v j es) :v=.aV\/j<l.length:=by
 cases h with
 | nil j=>exact .inl rfl
 | au j n cap sz cs es ag=>exact .inr (e7 ag)
theorem bB.row (h:bB z l v j es) :∀ e∈es,e.length=z:=by
 cases h with
 | nil j=>intro e ao; cases ao
 | au j n cap sz cs es ag am aF av=>exact av
theorem bB.cells (h:bB z l v j es) :v.cells=some [v] :=by cases h<;>rfl
theorem bB.len (h:bB z l v j es) :cz (.au z) v=some (.int .i64 es.length) :=by
 cases h with
 | nil j=>rfl
 | au j n cap sz cs es ag am aF=>subst aF; rfl
theorem bB.frame (h:bB z l v j es) (aj:j<l.length->l'[j]? = l[j]?) :bB z l' v j es:=by
 cases h with
 | nil j=>exact .nil j
 | au j n cap sz cs es ag am aF av ah c9 cb=>exact .au j n cap sz cs es (by rw[aj (e7 ag)]; exact ag) am aF av ah c9 cb
theorem bB.nT (h:bB z l v j es) (aj:v=.aV\/l'[j]? = l[j]?) :bB z l' v j es:=by
 cases h with
 | nil j=>exact .nil j
 | au j n cap sz cs es ag am aF av ah c9 cb=>
  rcases aj with aj | aj
  ·cases aj
  ·exact .au j n cap sz cs es (by rw[aj]; exact ag) am aF av ah c9 cb
theorem bB.more (h:bB z l v j es) (x:ap) :bB z (l++x) v j es:=h.frame fun aj=>arZ aj
theorem bB.contents (h:bB z l v j es) :dA l z v=some (es.flatten,es.length) :=by
 cases h with
 | nil j=>rfl
 | au j n cap sz cs es ag am aF av ah c9 cb=>subst aF; simp only[dA,ag,and_self,if_true,as1,cb]
theorem bB.Iq (h:bB z l v j es) (aD:∀ e∈es,mL e=true) :lz l v (tK z v es) :=by
 cases h with
 | nil j=>exact .flat _ rfl
 | au j n cap sz cs es ag am aF av ah c9 cb=>
  show lz l _ (.cq z es);refine VQ (rest:=cs.drop (n*z)) ?_ aF av aD;rw[ag,<-cb,asK]
theorem bB.tH (h:bB z l v j es) (aD:∀ e∈es,aZ e=true) :go (b8 l) v (tK z v es) :=by
 cases h with
 | nil j=>exact .same _ rfl
 | au j n cap sz cs es ag am aF av ah c9 cb=>
  show go (b8 l) _ (.cq z es);have qG:n*z<=cs.length:=by rw[am]; exact ati (ar2 _ ah) c9
  refine .au z j 0 n cap sz cs es (ly.2 ag) aF av (by omega) (fun i k e c c' ao hk du=>?_);have ax:i<es.length:=(arY.1 ao).1;have Dg:k<z:=by rw[<-av e (ar4 ao)]; exact (arY.1 hk).1
  have aM:i*z+k<n*z:=by
   have:i*z+z<=es.length*z:=by rw[<-asB]; exact ar2 _ ax
   rw[aF] at this; omega
  have h1:es.flatten[i*z+k]? = some c':=Aj es av i k e c' ao hk;rw[<-cb,asf aM] at h1;rw[as8,h1] at du;cases du;exact .same _ (Cq (aD e (ar4 ao)) k _ hk)
theorem Eo {l:ap} {z b n cap sz:Nat} {es:List (List ad)} {rest:List ad} (ag:l[b]? = some (.cells sz (es.flatten++rest))) (aF:es.length=n) (av:∀ e∈es,e.length=z) (ah:∀ e∈es,aZ e=true) :go (b8 l) (.au z b 0 n cap sz) (.cq z es) :=by
 have eo:=mM (z:=z) (es:=es) (fun e ao=>av e ao);refine .au z b 0 n cap sz _ es (ly.2 ag) aF av (by rw[asa,eo,aF]; omega) (fun i j e c c' ao aj du=>?_);have ax:i<es.length:=(arY.1 ao).1;have qz:j<z:=by rw[<-av e (ar4 ao)]; exact (arY.1 aj).1
 have aM:i*z+j<es.flatten.length:=by
  rw[eo];have:i*z+z<=es.length*z:=by rw[<-asB]; exact ar2 _ ax
  omega
 have h1:es.flatten[i*z+j]? = some c':=Aj es av i j e c' ao aj;rw[as8,arZ aM,h1] at du;cases du;exact .same _ (Cq (ah e (ar4 ao)) j _ aj)
theorem Pp (h:bB z l v j es) {by_ m:Nat} {xs:List (List ad)} (hm:xs.length=m) (mv:∀ e∈xs,e.length=z) (aB:z≠0) (eD:by_≠0) (dO:(es.length+m)*by_<=cK) :
  ∃ a8 bK l',jm l z by_ v xs.flatten m=some (a8,l')/\bB z l' a8 bK (es++xs)/\l.length<=l'.length/\(∀ b,b<l.length->b≠j->l'[b]? = l[b]?)/\(bK=j\/l.length<=bK)/\(a8=.aV<->v=.aV/\xs=[]) :=by
 by_cases kn:m=0
 ·have ai:xs=[] :=asF.1 (by omega);subst ai;refine⟨v,j,l,?_,by simpa using h,ar0 _,fun _ _ _=>rfl,.inl rfl,by simp⟩;unfold jm;rw[if_pos kn];cases h<;>rfl
 have a2:xs.flatten.length=m*z:=by rw[mM mv,hm]
 have jA:∀ e∈es++xs,e.length=z:=fun e ao=>by
  rcases asu.1 ao with h1 | h1
  ·exact h.row e h1
  ·exact mv e h1
 have bU:xs≠[] :=fun ai=>kn (by rw[<-hm,ai]; rfl)
 cases h with
 | nil j=>
  refine⟨.au z l.length 0 m m (m*z),l.length,l++[.cells (m*z) xs.flatten],?_,?_,by simp,fun b ag _=>arZ ag,.inr (ar0 _),by simp[bU]⟩
  ·unfold jm;rw[if_neg kn,if_neg (by omega)];simp only;rw[if_pos (by simpa using dO)]
  ·refine .au _ _ _ _ xs.flatten _ (by simp) a2 (by simpa using hm) jA (ar0 _) (ar0 _) ?_;rw[arX (by omega)]; rfl
 | au j n cap sz cs es ag am aF av ah c9 cb=>
  subst aF;have qG:es.length*z<=cap*z:=ar2 _ ah;have qB:(es++xs).length=es.length+m:=by simp[hm]
  have eo:(es++xs).flatten=es.flatten++xs.flatten:=by simp
  have pq:es.flatten.length=es.length*z:=mM av;have lI:jm l z by_ (.au z j 0 es.length cap sz) xs.flatten m =
    if es.length+m<=cap then some (.au z j 0 (es.length+m) cap sz,l.set j (.cells sz (bt cs (es.length*z) xs.flatten)))
    else if cap*z<sz then some (.au z l.length 0 (es.length+m) (es.length+m) ((es.length+m)*z),l++[.cells ((es.length+m)*z) (es.flatten++xs.flatten)])
    else some (.au z j 0 (es.length+m) (es.length+m) ((es.length+m)*z),l.set j (.cells ((es.length+m)*z) (es.flatten++xs.flatten))) :=by
   unfold jm;rw[if_neg kn,if_neg (by omega)];simp only[ag];rw[if_pos ⟨trivial,trivial,dO⟩];simp only[as8,as1,cb,if_true]
  rw[lI];have e3:=e7 ag;split
  ·rename_i h1;have Lx:(es.length+m)*z<=cap*z:=ar2 _ h1;rw[asA] at Lx;refine⟨_,j,_,rfl,?_,by simp,fun b bS gK=>by rw[ar7 (fun e=>gK e.symm)],.inl rfl,by simp⟩;refine .au j _ cap sz (bt cs (es.length*z) xs.flatten) _ (by rw[ar9 e3]) ?_ qB jA h1 c9 ?_
   ·rw[sm (by omega)]; omega
   ·rw[eo];unfold bt;rw[cb,asm (by simp[pq,a2,asA]),arX (by simp[pq,a2,asA])]
  ·split
   ·refine⟨_,l.length,_,rfl,?_,by simp,fun b bS _=>arZ bS,.inr (ar0 _),by simp⟩;refine .au _ _ _ _ (es.flatten++xs.flatten) _ (by simp) (by simp[pq,a2,asA]) qB jA (ar0 _) (ar0 _) ?_;rw[eo,arX (by simp[pq,a2,asA])]
   ·refine⟨_,j,_,rfl,?_,by simp,fun b bS gK=>by rw[ar7 (fun e=>gK e.symm)],.inl rfl,by simp⟩;refine .au j _ _ _ (es.flatten++xs.flatten) _ (by rw[ar9 e3]) (by simp[pq,a2,asA]) qB jA (ar0 _) (ar0 _) ?_;rw[eo,arX (by simp[pq,a2,asA])]
theorem pb (h:bB z l v j es) {by_:Nat} {x:ad} {xs:List (List ad)} (ai:dA l z x=some (xs.flatten,xs.length)) (mv:∀ e∈xs,e.length=z) (aB:z≠0) (eD:by_≠0) (dO:(es.length+xs.length)*by_<=cK) :
  ∃ a8 bK l',i1 l z by_ v x=some (a8,l')/\bB z l' a8 bK (es++xs)/\l.length<=l'.length/\(∀ b,b<l.length->b≠j->l'[b]? = l[b]?)/\(bK=j\/l.length<=bK)/\(a8=.aV<->v=.aV/\xs=[]) :=by
 unfold i1;rw[ai];exact Pp h rfl mv aB eD dO
theorem YD (h:bB z l v j es) {by_ n:Nat} {k:IntKind} {zero:List ad} (jB:zero.length=z) (aB:z≠0) (eD:by_≠0) (aF:n<9223372036854775808) (dO:(es.length+n)*by_<=cK) :
  ∃ a8 bK l',sG l z by_ zero v (.int k (n:Int))=some (a8,l')/\bB z l' a8 bK (es++List.replicate n zero)/\l.length<=l'.length/\(∀ b,b<l.length->b≠j->l'[b]? = l[b]?)/\(bK=j\/l.length<=bK)/\(a8=.aV<->v=.aV/\n=0) :=by
 have:=Pp h (xs:=List.replicate n zero) (m:=n) (by simp) (fun e ao=>by rw[(List.mem_replicate.1 ao).2,jB]) aB eD dO;obtain⟨a8,bK,l',h1,ae⟩:=this;refine⟨a8,bK,l',?_,by simpa [List.replicate_eq_nil_iff] using ae⟩;unfold sG;simp only[asC];rw[if_pos ⟨by omega,by omega,by have:=ati (ar2 by_ (Nat.le_add_left n es.length)) dO; exact this⟩,Is];exact h1
theorem YG {l:ap} {z by_ n:Nat} {v a8:ad} {xs:List ad} {pre rest:ap} {l' : ap} (aw:v=.aV\/∃ j n cap sz,v=.au z j 0 n cap sz/\pre.length<=j) (h:jm (pre++rest) z by_ v xs n=some (a8,l')) :
  ∃ mC,l'=pre++mC:=by
 unfold jm at h;by_cases aF:n=0
 ·rw[if_pos aF] at h;rcases aw with rfl | ⟨j,m,cap,sz,rfl,aj⟩<;>(cases h; exact⟨_,rfl⟩)
 rw[if_neg aF] at h;by_cases aB:z=0\/by_=0
 ·rw[if_pos aB] at h; cases h
 rw[if_neg aB] at h;rcases aw with rfl | ⟨j,m,cap,sz,rfl,aj⟩
 ·simp only at h;split at h
  ·cases h; exact⟨_,by rw[ass]⟩
  ·cases h
 ·simp only at h;split at h
  ·split at h
   ·split at h
    ·cases h; exact⟨_,by rw[asy _ _ aj]⟩
    ·split at h
     ·cases h; exact⟨_,by rw[ass]⟩
     ·split at h
      ·cases h; exact⟨_,by rw[asy _ _ aj]⟩
      ·rename_i aH; exact absurd trivial aH
   ·cases h
  ·cases h
theorem sH {z by_:Nat} {v:ad} {j:Nat} {es:List (List ad)} {pre rest:ap} (h:bB z (pre++rest) v j es) (aj:v=.aV\/pre.length<=j) {x:ad} {xs:List (List ad)} (ai:dA (pre++rest) z x=some (xs.flatten,xs.length)) (mv:∀ e∈xs,e.length=z) (aB:z≠0) (eD:by_≠0)
  (dO:(es.length+xs.length)*by_<=cK) :
  ∃ a8 bK mC,i1 (pre++rest) z by_ v x=some (a8,pre++mC)/\bB z (pre++mC) a8 bK (es++xs)/\(a8=.aV\/pre.length<=bK)/\cx a8=(cx v&&xs.isEmpty) :=by
 have aD:v=.aV\/∃ j n cap sz,v=.au z j 0 n cap sz/\pre.length<=j:=by
  cases h with
  | nil j=>exact .inl rfl
  | au j n cap sz cs es=>exact .inr ⟨j,n,cap,sz,rfl,aj.resolve_left (by simp)⟩
 obtain⟨a8,bK,l',h1,ae,al,aE,aU,bz⟩:=pb h ai mv aB eD dO;have c3:=h1;unfold i1 at c3;rw[ai] at c3;obtain⟨mC,rfl⟩:=YG (l:=[]) aD c3;refine⟨a8,bK,mC,h1,ae,?_,uX bz⟩;rcases aU with h | h
 ·rcases aj with aw | aj
  ·by_cases A8:xs=[]
   ·exact .inl (bz.2 ⟨aw,A8⟩)
   ·right;subst aw;have A7:xs.length≠0:=fun e=>A8 (asF.1 e)
    simp only at c3;unfold jm at c3;rw[if_neg A7] at c3;split at c3
    ·cases c3
    ·simp only at c3;split at c3
     ·obtain⟨rfl,_⟩:=Prod.mk.inj (Option.some.inj c3);generalize es++xs=E at ae;cases ae;simp
     ·cases c3
  ·right; omega
 ·right;rw[asa] at h; omega
theorem bB.view (h:bB z l v j es) (aw:cx v=false) :∃ n cap sz cs,v=.au z j 0 n cap sz/\l[j]? = some (.cells sz cs)/\cs.length=sz/\es.length=n/\n*z<=sz/\(∀ i e,es[i]? = some e->∀ m,m<z->cs[i*z+m]? = e[m]?)/\cs.take (n*z)=es.flatten:=by
 cases h with
 | nil j=>simp[cx] at aw
 | au j n cap sz cs es ag am aF av ah c9 cb=>
  refine⟨n,cap,sz,cs,rfl,ag,am,aF,ati (ar2 _ ah) c9,fun i e ao m hm=>?_,cb⟩;have ax:i<es.length:=(arY.1 ao).1;have aM:i*z+m<n*z:=by
   have:i*z+z<=es.length*z:=by rw[<-asB]; exact ar2 _ ax
   rw[aF] at this; omega
  have h1:=FP av ao hm;rw[<-h1,<-cb,asf aM]
theorem bB.Er {α:Type} {enc:α->List ad} {xs:List α} (h:bB z l v j (xs.map enc)) (aD:∀ x,mL (enc x)=true) (s:dg α) (ak:cx v=s.isNone) (ai:s.l=xs) :lz l v (cL z enc s) :=by
 have h1:=h.Iq (fun e ao=>by obtain⟨x,_,rfl⟩:=asr.1 ao; exact aD x);subst ai;unfold tK at h1;rw[ak] at h1;cases s with
 | none=>exact h1
 | some s=>exact h1
theorem bB.na {α:Type} {enc:α->List ad} {xs:List α} (h:bB z l v j (xs.map enc)) (aD:∀ x,aZ (enc x)=true) (s:dg α) (ak:cx v=s.isNone) (ai:s.l=xs) :go (b8 l) v (cL z enc s) :=by
 have h1:=h.tH (fun e ao=>by obtain⟨x,_,rfl⟩:=asr.1 ao; exact aD x);subst ai;unfold tK at h1;rw[ak] at h1;cases s with
 | none=>exact h1
 | some s=>exact h1
end
inductive ez (z:Nat) (l:ap) :ad->Nat->List (List ad)->Prop
 | nil (j:Nat) :ez z l .aV j []
 | au (j off n cap sz:Nat) (cs:List ad) (es:List (List ad)) (ag:l[j]? = some (.cells sz cs)) (am:cs.length=sz) (aF:es.length=n) (av:∀ e∈es,e.length=z) (ah:n<=cap) (c9:off+cap*z<=sz)
   (cb:(cs.drop off).take (n*z)=es.flatten) :ez z l (.au z j off n cap sz) j es
section
variable {z:Nat} {l l' : ap} {v:ad} {j:Nat} {es:List (List ad)}
theorem bB.q (h:bB z l v j es) :ez z l v j es:=by
 cases h with
 | nil j=>exact .nil j
 | au j n cap sz cs es ag am aF av ah c9 cb=>exact .au j 0 n cap sz cs es ag am aF av ah (by omega) (by simpa using cb)
theorem ez.row (h:ez z l v j es) :∀ e∈es,e.length=z:=by
 cases h with
 | nil j=>intro e ao; cases ao
 | au j off n cap sz cs es ag am aF av=>exact av
theorem ez.lt (h:ez z l v j es) :v=.aV\/j<l.length:=by
 cases h with
 | nil j=>exact .inl rfl
 | au j off n cap sz cs es ag=>exact .inr (e7 ag)
theorem ez.cells (h:ez z l v j es) :v.cells=some [v] :=by cases h<;>rfl
theorem ez.len (h:ez z l v j es) :cz (.au z) v=some (.int .i64 es.length) :=by
 cases h with
 | nil j=>rfl
 | au j off n cap sz cs es ag am aF=>subst aF; rfl
theorem ez.nT (h:ez z l v j es) (aj:v=.aV\/l'[j]? = l[j]?) :ez z l' v j es:=by
 cases h with
 | nil j=>exact .nil j
 | au j off n cap sz cs es ag am aF av ah c9 cb=>
  rcases aj with aj | aj
  ·cases aj
  ·exact .au j off n cap sz cs es (by rw[aj]; exact ag) am aF av ah c9 cb
theorem ez.more (h:ez z l v j es) (x:ap) :ez z (l++x) v j es:=h.nT (by
 rcases h.lt with h | h
 ·exact .inl h
 ·exact .inr (arZ h))
theorem ez.qX (h:ez z l .aV j es) :es=[] :=by
 generalize aw:ad.aV=w at h;cases h with
 | nil j=>rfl
 | au=>cases aw
theorem YA (h:ez z l v j es) {by_ m:Nat} {xs:List (List ad)} (hm:xs.length=m) (mv:∀ e∈xs,e.length=z) (aB:z≠0) (eD:by_≠0) (dO:(es.length+m)*by_<=cK) :
  ∃ a8 bK l',jm l z by_ v xs.flatten m=some (a8,l')/\ez z l' a8 bK (es++xs)/\l.length<=l'.length/\(∀ b,b<l.length->(v=.aV\/b≠j)->l'[b]? = l[b]?)/\(a8=.aV\/(v≠.aV/\bK=j)\/l.length<=bK)/\(a8=.aV<->v=.aV/\xs=[]) :=by
 by_cases kn:m=0
 ·have ai:xs=[] :=asF.1 (by omega);subst ai;refine⟨v,j,l,?_,by simpa using h,ar0 _,fun _ _ _=>rfl,?_,by simp⟩
  ·unfold jm;rw[if_pos kn];cases h<;>rfl
  ·by_cases aw:v=.aV
   ·exact .inl aw
   ·exact .inr (.inl ⟨aw,rfl⟩)
 have a2:xs.flatten.length=m*z:=by rw[mM mv,hm]
 have jA:∀ e∈es++xs,e.length=z:=fun e ao=>by
  rcases asu.1 ao with h1 | h1
  ·exact h.row e h1
  ·exact mv e h1
 have bU:xs≠[] :=fun ai=>kn (by rw[<-hm,ai]; rfl)
 cases h with
 | nil j=>
  refine⟨.au z l.length 0 m m (m*z),l.length,l++[.cells (m*z) xs.flatten],?_,?_,by simp,fun b ag _=>arZ ag,.inr (.inr (ar0 _)),by simp[bU]⟩
  ·unfold jm;rw[if_neg kn,if_neg (by omega)];simp only;rw[if_pos (by simpa using dO)]
  ·refine .au _ _ _ _ _ xs.flatten _ (by simp) a2 (by simpa using hm) jA (ar0 _) (by omega) ?_;rw[as1,arX (by omega)]; rfl
 | au j off n cap sz cs es ag am aF av ah c9 cb=>
  subst aF;have qG:es.length*z<=cap*z:=ar2 _ ah;have qB:(es++xs).length=es.length+m:=by simp[hm]
  have eo:(es++xs).flatten=es.flatten++xs.flatten:=by simp
  have pq:es.flatten.length=es.length*z:=mM av;have lI:jm l z by_ (.au z j off es.length cap sz) xs.flatten m =
    if es.length+m<=cap then some (.au z j off (es.length+m) cap sz,l.set j (.cells sz (bt cs (off+es.length*z) xs.flatten)))
    else if off+cap*z<sz then some (.au z l.length 0 (es.length+m) (es.length+m) ((es.length+m)*z),l++[.cells ((es.length+m)*z) (es.flatten++xs.flatten)])
    else if off=0 then some (.au z j 0 (es.length+m) (es.length+m) ((es.length+m)*z),l.set j (.cells ((es.length+m)*z) (cs.take (es.length*z)++xs.flatten)))
    else some (.au z l.length 0 (es.length+m) (es.length+m) ((es.length+m)*z),l.set j .dead++[.cells ((es.length+m)*z) (es.flatten++xs.flatten)]) :=by
   unfold jm;rw[if_neg kn,if_neg (by omega)];simp only[ag];rw[if_pos ⟨trivial,trivial,dO⟩];simp only[cb]
  rw[lI];have e3:=e7 ag;have mi:∀ eL:ap,eL.length=l.length->ez z (eL++[.cells ((es.length+m)*z) (es.flatten++xs.flatten)]) (.au z l.length 0 (es.length+m) (es.length+m) ((es.length+m)*z)) l.length (es++xs) :=fun eL rT=>by
   refine .au _ _ _ _ _ (es.flatten++xs.flatten) _ (by rw[<-rT]; simp) (by simp[pq,a2,asA]) qB jA (ar0 _) (by omega) ?_;rw[eo,as1,arX (by simp[pq,a2,asA])]
  split
  ·rename_i h1;have Lx:(es.length+m)*z<=cap*z:=ar2 _ h1;rw[asA] at Lx;refine⟨_,j,_,rfl,?_,by simp,fun b bS gK=>by rw[ar7 (fun e=>(gK.resolve_left (by simp)) e.symm)],.inr (.inl ⟨by simp,rfl⟩),by simp⟩;refine .au j off _ cap sz (bt cs (off+es.length*z) xs.flatten) _ (by rw[ar9 e3]) ?_ qB jA h1 c9 ?_
   ·rw[sm (by omega)]; omega
   ·rw[eo];unfold bt;have aJ:cs.take (off+es.length*z)=cs.take off++es.flatten:=by rw[List.take_add,cb]
    have L3:(cs.take off).length=off:=by rw[asc]; omega
    rw[aJ,ass,ass,asL (by omega),asW (by omega),asO,<-ass,asm (by simp[pq,a2,asA]),arX (by simp[pq,a2,asA])]
  ·split
   ·exact⟨_,l.length,_,rfl,mi l rfl,by simp,fun b bS _=>arZ bS,.inr (.inr (ar0 _)),by simp⟩
   ·split
    ·rename_i AO;subst AO;rw[as1] at cb;refine⟨_,j,_,rfl,?_,by simp,fun b bS gK=>by rw[ar7 (fun e=>(gK.resolve_left (by simp)) e.symm)],.inr (.inl ⟨by simp,rfl⟩),by simp⟩;refine .au j 0 _ _ _ (cs.take (es.length*z)++xs.flatten) _ (by rw[ar9 e3]) (by rw[cb]; simp[pq,a2,asA]) qB jA (ar0 _) (by omega) ?_;rw[cb,eo,as1,arX (by simp[pq,a2,asA])]
    ·refine⟨_,l.length,_,rfl,mi _ (by simp),by simp,fun b bS gK=>?_,.inr (.inr (ar0 _)),by simp⟩;rw[arZ (by simpa using bS),ar7 (fun e=>(gK.resolve_left (by simp)) e.symm)]
theorem ahe {pre rest l' : ap} (h:∀ b,b<pre.length->l'[b]? = (pre++rest)[b]?) (am:pre.length<=l'.length) :∃ mC,l'=pre++mC:=by
 refine⟨l'.drop pre.length,?_⟩;apply asY;intro i;by_cases ax:i<pre.length
 ·rw[h i ax,arZ ax,arZ ax]
 ·rw[ar8 (by omega),asE]; congr 1; omega
theorem Pq {by_:Nat} {pre rest:ap} (h:ez z (pre++rest) v j es) (aj:v=.aV\/pre.length<=j) {x:ad} {xs:List (List ad)} (ai:dA (pre++rest) z x=some (xs.flatten,xs.length)) (mv:∀ e∈xs,e.length=z) (aB:z≠0) (eD:by_≠0)
  (dO:(es.length+xs.length)*by_<=cK) :
  ∃ a8 bK mC,i1 (pre++rest) z by_ v x=some (a8,pre++mC)/\ez z (pre++mC) a8 bK (es++xs)/\(a8=.aV\/pre.length<=bK)/\cx a8=(cx v&&xs.isEmpty) ∧
   (∀ b,b<(pre++rest).length->(v=.aV\/b≠j)->(pre++mC)[b]? = (pre++rest)[b]?)/\(a8=.aV\/(v≠.aV/\bK=j)\/(pre++rest).length<=bK) :=by
 obtain⟨a8,bK,l',h1,ae,al,aE,aU,bz⟩:=YA h (by_:=by_) rfl mv aB eD dO;have n1:pre.length<=(pre++rest).length:=by simp
 obtain⟨mC,rfl⟩:=ahe (pre:=pre) (rest:=rest) (l':=l') (fun b ag=>aE b (by omega) (by
  rcases aj with h | h
  ·exact .inl h
  ·exact .inr (by omega))) (by omega)
 refine⟨a8,bK,mC,?_,ae,?_,uX bz,aE,aU⟩
 ·unfold i1; rw[ai]; exact h1
 ·rcases aU with h | ⟨h,h'⟩ | h
  ·exact .inl h
  ·rcases aj with aj | aj
   ·exact absurd aj h
   ·exact .inr (by omega)
  ·exact .inr (by omega)
theorem ez.from (h:ez z l v j es) (aw:cx v=false) {k:IntKind} {i:Nat} (ax:i<=es.length) :∃ a8,gS (.au z) v (some (.int k (i:Int))) none none=some a8/\ez z l a8 j (es.drop i)/\cx a8=false:=by
 cases h with
 | nil j=>simp[cx] at aw
 | au j off n cap sz cs es ag am aF av ah c9 cb=>
  subst aF;have uK:i*z+(cap - i)*z=cap*z:=by rw[<-asA]; congr 1; omega
  have SX:i*z+(es.length - i)*z=es.length*z:=by rw[<-asA]; congr 1; omega
  have dT:es.length*z<=cap*z:=ar2 _ ah;have Md:∀ e∈es.drop i,e.length=z:=fun e ao=>av e (atx ao)
  have eo:(es.drop i).flatten=(es.flatten).drop (i*z) :=by
   have h1:es.flatten=(es.take i).flatten++(es.drop i).flatten:=by rw[<-asX,asK]
   have ae:(es.take i).flatten.length=i*z:=by
    rw[mM (z:=z) (fun e ao=>av e (asz ao)),asc];congr 1; omega
   rw[h1,<-ae,avw]
  rw[zp,PL,if_pos ⟨by omega,by omega⟩];simp only[asC,asb,Option.some.injEq,exists_eq_left'];by_cases cJ:cap=i
  ·rw[if_pos cJ];have acV:es.drop i=[] :=asW (by omega);refine⟨?_,rfl⟩;rw[acV];exact .au j _ 0 0 sz cs [] ag am rfl (by simp) (ar0 _) (by omega) (by simp)
  ·rw[if_neg cJ];refine⟨.au j _ _ _ sz cs _ ag am (by simp) Md (by omega) (by omega) ?_,rfl⟩;rw[eo,<-cb,auh,auA];congr 1; omega
theorem ez.get (h:ez z l v j es) {k:IntKind} {i:Nat} {e:List ad} (ao:es[i]? = some e) :∃ p cs o,cd (.au z) v (.int k (i:Int))=some p/\eZ l p=some (cs,o)/\o+z<=cs.length/\(cs.drop o).take z=e:=by
 cases h with
 | nil j=>simp at ao
 | au j off n cap sz cs es ag am aF av ah c9 cb=>
  subst aF;have ax:=(arY.1 ao).1;have h1:i*z+z<=es.length*z:=by rw[<-asB]; exact ar2 _ ax
  have ae:es.length*z<=cap*z:=ar2 _ ah;refine⟨.ptr j (off+i*z) sz,cs,off+i*z,?_,?_,by omega,?_⟩
  ·simp only[cd,asC];rw[if_pos ⟨trivial,by omega,by omega⟩]
  ·simp only[eZ,ag,if_true]
  ·have acY:=av e (ar4 ao);apply asY;intro m;by_cases hm:m<z
   ·rw[asf hm,asE,<-FP av ao hm,<-cb,asf (by omega),asE];congr 1; omega
   ·rw[ase (by simp; omega),ase (by omega)]
theorem ez.Iq (h:ez z l v j es) (aD:∀ e∈es,mL e=true) :lz l v (tK z v es) :=by
 cases h with
 | nil j=>exact .flat _ rfl
 | au j off n cap sz cs es ag am aF av ah c9 cb=>
  show lz l _ (.cq z es);have qG:off+n*z<=cs.length:=by rw[am]; have:=ar2 z ah; omega
  refine .au z j off n cap sz cs es ag aF av (by omega) (fun i k e c c' ao hk du=>?_);have ax:i<es.length:=(arY.1 ao).1;have Dg:k<z:=by rw[<-av e (ar4 ao)]; exact (arY.1 hk).1
  have aM:i*z+k<n*z:=by
   have:i*z+z<=es.length*z:=by rw[<-asB]; exact ar2 _ ax
   rw[aF] at this; omega
  have h1:es.flatten[i*z+k]? = some c':=Aj es av i k e c' ao hk;rw[<-cb,asf aM,asE] at h1;rw[h1] at du;cases du;exact .flat _ (FO (aD e (ar4 ao)) k _ hk)
theorem ez.tH (h:ez z l v j es) (aD:∀ e∈es,aZ e=true) :go (b8 l) v (tK z v es) :=by
 cases h with
 | nil j=>exact .same _ rfl
 | au j off n cap sz cs es ag am aF av ah c9 cb=>
  show go (b8 l) _ (.cq z es);have qG:off+n*z<=cs.length:=by rw[am]; have:=ar2 z ah; omega
  refine .au z j off n cap sz cs es (ly.2 ag) aF av (by omega) (fun i k e c c' ao hk du=>?_);have ax:i<es.length:=(arY.1 ao).1;have Dg:k<z:=by rw[<-av e (ar4 ao)]; exact (arY.1 hk).1
  have aM:i*z+k<n*z:=by
   have:i*z+z<=es.length*z:=by rw[<-asB]; exact ar2 _ ax
   rw[aF] at this; omega
  have h1:es.flatten[i*z+k]? = some c':=Aj es av i k e c' ao hk;rw[<-cb,asf aM,asE] at h1;rw[h1] at du;cases du;exact .same _ (Cq (aD e (ar4 ao)) k _ hk)
theorem ez.rd (h:ez z l v j es) (aD:∀ e∈es,aZ e=true) :Rd l v (tK z v es) :=by
 cases h with
 | nil j=>exact .same _ rfl
 | au j off n cap sz cs es ag am aF av ah c9 cb=>
  show Rd l _ (.cq z es);have qG:off+n*z<=cs.length:=by rw[am]; have:=ar2 z ah; omega
  refine .au z j off n cap sz cs es ag aF av (by omega) (fun i k e c c' ao hk du=>?_);have ax:i<es.length:=(arY.1 ao).1;have Dg:k<z:=by rw[<-av e (ar4 ao)]; exact (arY.1 hk).1
  have aM:i*z+k<n*z:=by
   have:i*z+z<=es.length*z:=by rw[<-asB]; exact ar2 _ ax
   rw[aF] at this; omega
  have h1:es.flatten[i*z+k]? = some c':=Aj es av i k e c' ao hk;rw[<-cb,asf aM,asE] at h1;rw[h1] at du;cases du;exact .same _ (Cq (aD e (ar4 ao)) k _ hk)
theorem ez.lZ {α:Type} {enc:α->List ad} {xs:List α} (h:ez z l v j (xs.map enc)) (aD:∀ x,aZ (enc x)=true) (s:dg α) (ak:cx v=s.isNone) (ai:s.l=xs) :Rd l v (cL z enc s) :=by
 have h1:=h.rd (fun e ao=>by obtain⟨x,_,rfl⟩:=asr.1 ao; exact aD x);subst ai;unfold tK at h1;rw[ak] at h1;cases s with
 | none=>exact h1
 | some s=>exact h1
theorem ez.Er {α:Type} {enc:α->List ad} {xs:List α} (h:ez z l v j (xs.map enc)) (aD:∀ x,mL (enc x)=true) (s:dg α) (ak:cx v=s.isNone) (ai:s.l=xs) :lz l v (cL z enc s) :=by
 have h1:=h.Iq (fun e ao=>by obtain⟨x,_,rfl⟩:=asr.1 ao; exact aD x);subst ai;unfold tK at h1;rw[ak] at h1;cases s with
 | none=>exact h1
 | some s=>exact h1
theorem ez.na {α:Type} {enc:α->List ad} {xs:List α} (h:ez z l v j (xs.map enc)) (aD:∀ x,aZ (enc x)=true) (s:dg α) (ak:cx v=s.isNone) (ai:s.l=xs) :go (b8 l) v (cL z enc s) :=by
 have h1:=h.tH (fun e ao=>by obtain⟨x,_,rfl⟩:=asr.1 ao; exact aD x);subst ai;unfold tK at h1;rw[ak] at h1;cases s with
 | none=>exact h1
 | some s=>exact h1
end
theorem YT {P:Program} {t:TypeId} {xs bh:List ad} {r:Bool} (ar:P.eqGuardType P.depth t=false) (h:eW P 10000 t (.aI xs) (.aI bh)=some r) :gq P .eql t (.aI xs) (.aI bh)=some (.bool r) :=by
 simp only[gq,x4,ar,auZ,if_true,h]; rfl
theorem YU {P:Program} {t:TypeId} {xs bh:List ad} {r:Bool} (ar:P.eqGuardType P.depth t=false) (h:eW P 10000 t (.aI xs) (.aI bh)=some r) :gq P .neq t (.aI xs) (.aI bh)=some (.bool (!r)) :=by
 simp only[gq,x4,ar,auZ,if_true,h]; rfl
end Go.cf

namespace Go.cf
open Go Go.ChangeShapes Go.RowKit
theorem ag3 (k:Nat) :¬ mF a6.empty (fun _=>none) k:=by
 rintro⟨b,m,am,_,_⟩;simp[a6.empty,a6.f,live,c2.get] at am
theorem abr {H:Type} {enc:TypeId × Value->H} {P:Program} {w:World} {base:Nat} {spare:Nat->Bool} {held:Bool} {fuel:Nat} {Uu:String} {g t e n:Nat} {cs:Array Value} {x:DataW H × List MemPlace} (bW:List Int)
  (ar:P.globalNamed Uu=some g) (aw:w.var? P Uu=some cs) (aP:P.underlying t=some (.array n e)) (ao:P.underlying e=some (.int .u32)) (ah:P.cellsOf e=1) (bN:DataW.trod enc P w base spare held fuel t cs.toList=some x)
  (ai:x.1=.agg (bW.map fun k=>.lit (.int .u32 k))) :fO w (fun _=>True) (.b0 (bW.map fun k=>.int .u32 k) 0) (.pointer (some ⟨g,0,none⟩)) :=by
 obtain⟨xs,m,rfl,A7,bn,aF,acX⟩:=DataW.trod_array aP bN;rw[A7] at ai;simp only[DataW.agg.injEq] at ai;have mY:bW.length=n:=by have:=congrArg List.length ai; simp at this; omega
 have np:∀ j k,bW[j]? = some k->w.cell? ⟨g,j,none⟩=some (.int .u32 k) :=by
  intro j k aj;have k9:j<n:=by have:=(arY.1 aj).1; omega
  have h1:=acX j k9;rw[ah,atC] at h1;have SC:j<xs.length:=by omega
  rw[ar1 SC] at h1;obtain⟨k',aR,bE,_⟩:=DataW.trod_int ao h1;have al:=congrArg (fun l=>l[j]?) ai;simp only[ar5,ar1 SC,aj,asb,Option.some.injEq] at al;rw[bE] at al;have pu:k'=k:=by simpa using al
  subst pu;have aE:=World.var?_cell ar aw j;rw[aE];have aU:(cs.toList.drop j)[0]? = some (Value.int .u32 k') :=by
   have:((cs.toList.drop j).take 1)[0]? = some (Value.int .u32 k') :=by rw[aR]; rfl
   rw[List.getElem?_take] at this;simpa using this
  rw[asE] at aU;simpa using aU
 refine .b0 _ 0 g 0 (fun j=>.int .u32 (bW.getD j 0)) (fun j aj=>?_) (fun j c aj=>?_)
 ·rw[asi] at aj;refine⟨?_,rfl,trivial,ag3 g⟩;rw[as8,np j bW[j] (ar1 aj),asq,ar1 aj];rfl
 ·rw[ar5] at aj;cases hk:bW[j]? with
  | none=>rw[hk] at aj; cases aj
  | some k=>
   rw[hk] at aj;cases aj;rw[asq,hk];exact .int _ _
theorem WZ {H:Type} {enc:TypeId × Value->H} {P:Program} {w:World} {base:Nat} {spare:Nat->Bool} {held:Bool}:∀ {ts:List TypeId} {vs:List Value} {ir:List (DataW H)} {cT:List MemPlace},
  DataW.TrodAll enc P w base spare held ts vs ir cT->ir.length=ts.length
 | [],vs,ir,cT,h=>by obtain⟨rfl,rfl,rfl⟩:=trodAll_nil h; rfl
 | t::ts,vs,ir,cT,h=>by
  obtain⟨v,akE,d,aad,a,b,rfl,rfl,rfl,h1,ae⟩:=trodAll_cons h;simp[WZ ae]
end Go.cf

namespace Go.cf
open Go
abbrev O3 (P:Program) (G:Nat->ad) (e:FuncId × Bool × (List ad->Option ad)) :Prop:=∀ args r,e.2.2 args=some r->bx P G e.1 args r/\(e.2.1=true->p1 P G e.1 args r)
def EV (P:Program) (G:Nat->ad) :List (FuncId × Bool × (List ad->Option ad))->Prop
 | []=>True
 | e::r=>O3 P G e/\EV P G r
theorem EV.mem {P:Program} {G:Nat->ad}:∀ {l:List (FuncId × Bool × (List ad->Option ad))},EV P G l->∀ e∈l,O3 P G e
 | e::l,h,x,ai=>by
  rcases as0.1 ai with rfl | ai
  ·exact h.1
  ·exact EV.mem h.2 x ai
def dU (l:List Nat) :List ad:=l.map fun n=>.int .u8 (.ofNat n)
def hP (l:List ad) :List (List ad) :=l.map fun c=>[c]
end Go.cf

namespace Go.cf
open Go Go.Proofs Go.Shelf Go.Sort Go.RowKit
def zg:ad->Bool | .bool _=>true | .int _ _=>true | .str _=>true | _=>false
def valOf:ad->Value | .bool b=>.bool b | .int k n=>.int k n | .str s=>.string ⟨s.toArray⟩ | _=>.bool false
theorem akC {w:World} {R:Nat->Prop} {h:a6} {μ:cR} {c:ad} {v:Value} (aC:zg c=true) (aw:aS w R h μ c v) :v=valOf c:=by
 cases aw with
 | bool b=>rfl
 | int k n=>rfl
 | str bs=>obtain⟨⟨l⟩⟩:=bs; rfl
 | bad=>cases aC
 | _=>cases aC
theorem U9 {w:World} {R:Nat->Prop} {h:a6} {μ:cR} {c:ad} (aC:zg c=true) :aS w R h μ c (valOf c) :=by
 cases c with
 | bool b=>exact .bool b
 | int k n=>exact .int k n
 | str s=>exact (.str ⟨s.toArray⟩:aS w R h μ (.str (ByteArray.mk s.toArray).data.toList) _)
 | _=>cases aC
theorem IM (c:ad) :(valOf c).oneCell'=true:=by cases c<;>rfl
theorem Zr {w W:World} {b o:Nat} (h:W.heap[b]? = w.heap[b]?) :W.cell? ⟨b,o,none⟩=w.cell? ⟨b,o,none⟩:=by simp[World.cell?,h]
theorem Zs {w:World} {b o:Nat} {v:Value} (h:w.cell? ⟨b,o,none⟩=some v) :b<w.heap.size:=by
 apply Decidable.byContradiction;intro aF;simp only[World.cell?] at h;rw[atI (by omega)] at h;cases h
theorem akB {w W:World} {A:Nat->Prop} (cv:∀ k,A k->k<w.heap.size->W.heap[k]? = w.heap[k]?) {c:ad} {v:Value} (aw:fO w A c v) :fO W A c v:=by
 unfold fO at aw ⊢;generalize aH:a6.empty=aB at aw ⊢;generalize hm:(fun _=>none:cR)=ss at aw ⊢;have sM:∀ {b o:Nat} {v:Value},Cell w A aB ss b o v->Cell W A aB ss b o v:=fun {b o v} k=>⟨(Zr (cv b k.ro (Zs k.here))).trans k.here,k.one,k.ro,k.free⟩
 induction aw with
 | bool b=>exact .bool b
 | int k n=>exact .int k n
 | str bs=>exact .str bs
 | ka=>exact .ka
 | aV=>exact .aV
 | iE=>exact .iE
 | j8=>exact .j8
 | j9=>exact .j9
 | aI cs vs am h1 aw aO=>exact .aI cs vs am h1 aO
 | bJ cs vs am aw aO=>exact .bJ cs vs am aO
 | ptr b off sz cs m ag i7=>subst hm; cases i7
 | nz b off sz a ar=>exact .nz b off sz a ar
 | b0 cs off blk o eI ah aw aO=>exact .b0 cs off blk o eI (fun j aj=>sM (ah j aj)) aO
 | au z b off len cap sz cap' cs m ag i7 am aq ah=>subst hm; cases i7
 | gX z b off len cap sz cap' a am ah ar=>exact .gX z b off len cap sz cap' a am ah ar
 | ik z b off sz a cs m ag i7=>subst hm; cases i7
 | cq z es blk off cap eI am av ah aw aO=>exact .cq z es blk off cap eI am av (fun i j ax aj=>sM (ah i j ax aj)) aO
 | fY z a cap=>exact .fY z a cap
 | fn f first gJ fs cs aD ah h1 ae dq ic=>exact .fn f first gJ fs cs aD ah dq ic
 | mp b m ag i7=>subst hm; cases i7
 | it b m ag i7=>subst hm; cases i7
 | hu t c v aw aO=>exact .hu t c v aO
 | nf l=>exact .nf l
 | bad v=>exact .bad v
theorem YZ {W w' : World} (h:zH W w') :∃ q os,w'=grow (W.drewN q) os:=by
 refine⟨w'.drawn - W.drawn,w'.heap.extract W.heap.size,?_⟩;have bN:=h.drawn;have ak:=h.size;obtain⟨GF,ajR,JT,M9,agU⟩:=w';obtain⟨heap,tape,drawn,os,out⟩:=W;have aR:M9=os:=h.os;have bE:ajR=tape:=h.tape;have c4:agU=out:=h.output;subst aR bE c4;have jr:GF=heap++GF.extract heap.size:=by
  apply Array.ext_getElem?;intro k;rw[Array.getElem?_append];split
  ·rename_i hk;exact h.block k hk
  ·rename_i hk;rw[Array.getElem?_extract];have wL:heap.size<=GF.size:=ak;by_cases fR:k<GF.size
   ·rw[if_pos (by omega),show heap.size+(k - heap.size)=k by omega]
   ·rw[if_neg (by omega),atI (by omega)]
 have CC:JT=drawn+(JT - drawn) :=by
  have:drawn<=JT:=bN;omega
 unfold grow World.drewN;simp only;rw[<-jr,<-CC]
def EZ (P:Program) (f g:FuncId) (k:Nat) {X:Type} [Inhabited X] (dJ:X->List Value) (ip:X->X->Int) :Prop:=
 ∀ (blk off cap:Nat) (d:Array X) (w:World),CmpLays P g #[] dJ k ip blk off d.size w->HoldsK dJ k w blk off d->blk<w.heap.size->d.size<4611686018427387904->
  Calls P f #[.slice (some ⟨blk,off,none⟩) d.size cap,.func (.func g) #[] #[]] w fun e w'=>e=.returned (.tuple #[])/\∃ uo n os,PermIn 0 d.size d uo/\SortedIn (ltOf ip) 0 d.size uo/\w'=sortWorldK dJ k w blk off n uo os
def sorted {X:Type} (ip:X->X->Int) (xs:List X) :List X:=xs.mergeSort fun x y=>!ltOf ip y x
theorem Wz {X:Type} (ip:X->X->Int) (xs:List X) :(sorted ip xs).length=xs.length:=List.length_mergeSort _
section
variable {P:Program} {G:Nat->ad} {X:Type} {enc:X->List ad} {k:Nat}
theorem Et (hk:∀ x,(enc x).length=k) (xs:List X) {j:Nat} (aj:j<xs.length*k) :∃ x c,xs[j / k]? = some x/\(enc x)[j % k]? = some c/\((xs.map enc).flatten)[j]? = some c:=by
 have rQ:0<k:=Nat.pos_of_ne_zero fun h=>by subst h; simp at aj
 have h1:j / k<xs.length:=Nat.div_lt_of_lt_mul (by rw[avh]; exact aj);have ae:j % k<k:=aud _ rQ;refine⟨xs[j / k],(enc xs[j / k])[j % k]'(by rw[hk]; exact ae),ar1 h1,ar1 _,?_⟩;have al:(xs.map enc)[j / k]? = some (enc xs[j / k]) :=by rw[ar5,ar1 h1]; rfl
 have aE:=FP (z:=k) (fun e ao=>by obtain⟨x,_,rfl⟩:=asr.1 ao; exact hk x) al ae;rw[avh,Nat.div_add_mod] at aE;rw[aE];exact ar1 _
theorem QP [Inhabited X] (hk:∀ x,(enc x).length=k) (xs:List X) {j:Nat} (aj:j<xs.length*k) {c:ad} (ah:((xs.map enc).flatten)[j]? = some c) :(flatK (fun x=>(enc x).map valOf) k xs.toArray)[j]! = valOf c:=by
 obtain⟨x,c',h1,ae,al⟩:=Et hk xs aj;rw[al] at ah; cases ah;rw[get_flatK _ _ _ _ (by simpa using aj)];have aE:xs.toArray[j / k]! = x:=by
  have aM:=(arY.1 h1).1;rw[getElem!_pos _ _ (by simpa using aM)];simpa using (arY.1 h1).2
 rw[aE];obtain⟨aU,bz⟩:=arY.1 ae;rw[getElem!_pos _ _ (by simpa using aU)];simp[bz]
theorem ajk [Inhabited X] {f g b off len cap sz:Nat} {cs:List ad} {xs:List X} {h:a6} (ip:X->X->Int) (dS:EZ P f g k (fun x=>(enc x).map valOf) ip) (dn:SWO (ltOf ip)) (KT:∀ x y,ltOf ip x y=false->ltOf ip y x=false->x=y)
  (hk:∀ x,(enc x).length=k) (aC:∀ x,∀ c∈enc x,zg c=true) (rJ:∀ x y,bx P G g [.aI (enc x),.aI (enc y)] (.int .i64 (ip x y)))
  (ag:h.f b=.cells sz cs) (bn:xs.length=len) (h1:0<len) (pj:len<4611686018427387904) (cb:(cs.drop off).take (len*k)=(xs.map enc).flatten) (cZ:off+len*k<=sz) :
  sv P G f [.au k b off len cap sz,.fn g [] []] h (.bJ []) (h.set b (.cells sz (bt cs off ((sorted ip xs).map enc).flatten))) :=by
 intro R B w μ vs rel FW am aw;obtain⟨oZ⟩:=vs
 match oZ,am with
 | [v0,eh],_=>
 have iP:=aw 0 _ v0 rfl rfl;have mq:=aw 1 _ eh rfl rfl;have aeD:¬ vv h b sz:=by
  rintro (aB | ⟨n,oA,aB,ae⟩)
  ·rw[ag] at aB; cases aB
  ·rw[ag] at aB; cases aB; omega
 cases mq with
 | fn _ _ _ fs um aD ah _ _=>
 have km:fs=#[] :=at8 aD;have kk:um=#[] :=at8 ah;subst km kk;cases iP with
 | gX _ _ _ _ _ _ _ _ _ _ ar=>exact absurd ar aeD
 | ik=>omega
 | au _ _ _ _ _ _ cap' oA m lJ hm pw aq du=>
 rw[ag] at lJ; cases lJ;have hblk:=rel.blk b m hm;rw[ag] at hblk;obtain⟨eE,e8,arr,e,gB,aA,cM,mW,jX⟩:=hblk;have lO:live (h.f b)=true:=by rw[ag]; rfl
 have e4:mF h μ m.r:=⟨b,m,lO,hm,rfl⟩
 have Lw:=rel.lt lO hm;have pu:∀ j,j<len*k->∃ c,((xs.map enc).flatten)[j]? = some c/\cs[off+j]? = some c/\zg c=true:=by
  intro j aj;obtain⟨x,c,aL,aT,a7⟩:=Et hk xs (by rw[bn]; exact aj);refine⟨c,a7,?_,aC x c (ar4 aT)⟩;rw[<-cb,asf aj,asE] at a7;exact a7
 have hH:HoldsK (fun x=>(enc x).map valOf) k w m.r (m.s+off) xs.toArray:=by
  intro j aj;rw[size_flatK] at aj;have ep:j<len*k:=by simpa [bn] using aj
  obtain⟨c,aL,aT,a7⟩:=pu j ep;obtain⟨v,bp,bf,bT⟩:=jX (off+j) c aT;have aM:m.s+off+j<arr.size:=by
   have:=(asG.1 bp).1;omega
  constructor
  ·simp only[World.cell?,aA,atU];rw[QP hk xs (by rw[bn]; exact ep) aL,<-akC a7 bT,atJ];exact bp
  ·simp only[World.frozen?,aA];rcases mW with aB | aB
   ·subst aB; simp
   ·simp; intro al; omega
 have acH:CmpLays P g #[] (fun x=>(enc x).map valOf) k ip m.r (m.s+off) xs.toArray.size w:=by
  intro n os Z2 AE x y;obtain⟨W,dN⟩:∃ W,W=sortWorldK (fun x=>(enc x).map valOf) k w m.r (m.s+off) n Z2 os:=⟨_,rfl⟩
  have ab9:∀ i,i≠m.r->i<w.heap.size->W.heap[i]? = w.heap[i]?:=by
   intro i ax aM;rw[dN];show (((w.heap.modify m.r _)++os))[i]? = _;rw[atj (by simpa using aM),auj,if_neg (fun h=>ax h.symm)]
  rw[<-dN];have cv:∀ i,(R i/\¬ mF h μ i)->i<w.heap.size->W.heap[i]? = w.heap[i]?:=fun i ax aM=>ab9 i (fun ao=>ax.2 (by rw[ao]; exact e4)) aM
  have key:=rJ x y W (fun i=>R i/\¬ mF h μ i) #[.agg ((enc x).map valOf).toArray,.agg ((enc y).map valOf).toArray] (fun Rm=>akB cv (xX (FW Rm).2 (FW Rm).1)) rfl (fun j c v aj fG=>by
   have one:∀ z:X,fO W (fun i=>R i/\¬ mF h μ i) (.aI (enc z)) (.agg ((enc z).map valOf).toArray) :=fun z=>by
    refine .aI _ _ (by simp) (fun i v ax=>?_) (fun i c v ax Sy=>?_)
    ·simp only[auO,ar5,auF] at ax;obtain⟨c,_,rfl⟩:=ax;exact IM c
    ·simp only[auO,ar5,auF] at Sy;obtain⟨c',al,rfl⟩:=Sy;rw[ax] at al; cases al;exact U9 (aC z c (ar4 ax))
   match j with
   | 0=>simp at aj fG; subst aj fG; exact one x
   | 1=>simp at aj fG; subst aj fG; exact one y
   | j+2=>simp at aj)
  refine key.mono ?_;rintro e w' ⟨v,rfl,eC,mm⟩;obtain⟨q,M9,rfl⟩:=YZ eC;cases mm;exact⟨rfl,q,M9,rfl⟩
 have hr:=dS m.r (m.s+off) cap' xs.toArray w acH hH Lw (by simpa [bn] using pj);have qN:((xs.toArray.size:Nat) :Int)=(len:Int) :=by simp[bn]
 rw[show (xs.toArray.size)=len by simp[bn]] at hr;refine hr.mono ?_;rintro fE w' ⟨rfl,uo,n,os,mS,i4,rfl⟩;have wv:uo.toList=sorted ip xs:=by
  have:=sorted_unique_holds dn KT xs.toArray uo (by simpa [bn] using mS) (by simpa [bn] using i4);simpa [sorted] using this
 obtain⟨bh,DE⟩:∃ bh,bh=sorted ip xs:=⟨_,rfl⟩
 rw[<-DE] at wv ⊢;have b4:bh.length=len:=by rw[DE,Wz,bn]
 have K6:uo=bh.toArray:=by rw[<-wv]
 subst K6;have eo:((bh.map enc).flatten).length=len*k:=by
  have:∀ l:List X,((l.map enc).flatten).length=l.length*k:=fun l=>by
   induction l with
   | nil=>simp
   | cons a l aO=>simp only[ast,as4,asa,aO,hk,asp]; rw[asB]; omega
  rw[this,b4]
 obtain⟨bX,ko⟩:∃ bX,bX=putRowK (fun x=>(enc x).map valOf) k (Sort.ahead w n) m.r (m.s+off) bh.toArray:=⟨_,rfl⟩
 have kN:bX.heap=w.heap.modify m.r (onCells (putCells id (m.s+off) (flatK (fun x=>(enc x).map valOf) k bh.toArray))) :=by rw[ko]; rfl
 have GC:off<=cs.length:=by omega
 obtain⟨ex,q5⟩:=rel.write (w':=bX) (sz':=sz) (cs':=bt cs off ((bh.map enc).flatten)) (arr':=putCells id (m.s+off) (flatK (fun x=>(enc x).map valOf) k bh.toArray) arr) ag hm aA cM mW (by rw[ko]; rfl) (by rw[ko]; rfl) (by rw[ko]; rfl) (by rw[kN]; simp)
  (by rw[kN,auj,if_pos rfl,aA]; rfl) (fun i ax=>by rw[kN,auj,if_neg (fun h=>ax h.symm)]) (by simp[putCells])
  (by rw[sm GC,eo]; omega) (ar0 _) e8 (fun j c aj=>by
   rw[Ob GC,eo] at aj;have ec:(putCells id (m.s+off) (flatK (fun x=>(enc x).map valOf) k bh.toArray) arr)[m.s+j]? = (arr[m.s+j]?).map fun x=>if m.s+off<=m.s+j/\m.s+j<m.s+off+(flatK (fun x=>(enc x).map valOf) k bh.toArray).size then (flatK (fun x=>(enc x).map valOf) k bh.toArray)[m.s+j - (m.s+off)]! else x:=by
    unfold putCells; rw[Array.getElem?_mapIdx]; rfl
   rw[size_flatK] at ec;by_cases AI:j<off
   ·rw[if_pos AI] at aj;obtain⟨v,bp,bf,bT⟩:=jX j c aj;refine⟨v,?_,bf,bT⟩;rw[ec,bp,asb,if_neg (by omega)]
   ·rw[if_neg AI] at aj;by_cases jZ:j<off+len*k
    ·rw[if_pos jZ] at aj;have e3:j - off<len*k:=by omega
     obtain⟨xS,aL,aT,a7⟩:=pu (j - off) e3;rw[show off+(j - off)=j by omega] at aT;obtain⟨v,bp,bf,bT⟩:=jX j xS aT;obtain⟨x,cm,aR,bE,c4⟩:=Et hk bh (j:=j - off) (by rw[b4]; exact e3);rw[c4] at aj; cases aj;refine⟨valOf c,?_,IM c,U9 (aC x c (ar4 bE))⟩;rw[ec,bp,asb,if_pos (by simp[b4]; omega),show m.s+j - (m.s+off)=j - off by omega,QP hk bh (by rw[b4]; exact e3) c4]
    ·rw[if_neg jZ] at aj;obtain⟨v,bp,bf,bT⟩:=jX j c aj;refine⟨v,?_,bf,bT⟩;rw[ec,bp,asb,if_neg (by simp[b4]; omega)]) (by rw[ko]; exact Nat.le_add_right _ _)
 have KW:zH bX (grow bX os) :=⟨⟨rfl,rfl,rfl,by simp[grow],fun i ax=>by simp only[grow]; rw[atj ax]⟩,ar0 _⟩
 obtain⟨v6,tI⟩:=Es q5 KW;refine⟨_,μ,rfl,?_,?_,.bJ [] #[] rfl (fun j c v aj _=>by simp at aj)⟩
 ·rw[ko] at ex v6; exact ex.trans v6
 ·rw[ko] at tI; exact tI
end

section
variable {P:Program} {G:Nat->ad} {X:Type} {enc:X->List ad} {k:Nat}
theorem Wc {k:Nat}:∀ {es:List (List ad)},(∀ e∈es,e.length=k)->es.flatten.length=es.length*k
 | [],_=>by simp
 | e::es,h=>by
  rw[as4,asa,h e (by simp),Wc (fun x ai=>h x (by simp[ai])),asp,asB]; omega
theorem Ww [Inhabited X] {f g:Nat} (ip:X->X->Int) (dS:EZ P f g k (fun x=>(enc x).map valOf) ip) (dn:SWO (ltOf ip)) (KT:∀ x y,ltOf ip x y=false->ltOf ip y x=false->x=y)
  (hk:∀ x,(enc x).length=k) (aC:∀ x,∀ c∈enc x,zg c=true) (rJ:∀ x y,bx P G g [.aI (enc x),.aI (enc y)] (.int .i64 (ip x y)))
  {l:ap} {v:ad} {j:Nat} {xs:List X} (e4:ez k l v j (xs.map enc)) (pj:xs.length<4611686018427387904) {K:ad->ap->Prop}
  (aB:xs=[]->dr P G f [v,.fn g [] []] l (c:=⟨K⟩))
  (bl:∀ l',l'.length=l.length->(∀ b,b≠j->l'[b]? = l[b]?)->ez k l' v j ((sorted ip xs).map enc)->K (.bJ []) l') :dr P G f [v,.fn g [] []] l (c:=⟨K⟩) :=by
 cases xs with
 | nil=>exact aB rfl
 | cons x xs=>
 obtain⟨bh,DE⟩:∃ bh,bh=x::xs:=⟨_,rfl⟩
 rw[<-DE] at e4 pj bl;have h0:0<bh.length:=by rw[DE]; simp
 generalize lK:bh.map enc=es at e4;cases e4 with
 | nil j=>rw[ate] at lK; rw[lK] at h0; simp at h0
 | au j off n cap sz cs es ag am aF av ah c9 cb=>
 subst lK;have s6:bh.length=n:=by simpa using aF
 have dT:n*k<=cap*k:=ar2 _ ah;have e3:j<l.length:=(arY.1 ag).1;have ak:=ajk (P:=P) (G:=G) (cap:=cap) ip dS dn KT hk aC rJ (h:=b8 l) (ly.2 ag) s6 (by omega) (by omega) cb (by omega);rw[o7 _ e3] at ak;refine⟨_,_,.ext ak,by simp,?_⟩;have db:((sorted ip bh).map enc).length=n:=by rw[asi,Wz,s6]
 have cI:∀ e∈(sorted ip bh).map enc,e.length=k:=fun e ao=>by obtain⟨x,_,rfl⟩:=asr.1 ao; exact hk x
 have eo:(((sorted ip bh).map enc).flatten).length=n*k:=by rw[Wc cI,db]
 have GC:off<=cs.length:=by omega
 refine bl _ (by simp) (fun b gK=>by rw[ar7 (fun h=>gK h.symm)]) ?_;refine .au j off n cap sz _ _ (ar9 e3) (by rw[sm GC,eo]; omega) db cI ah c9 ?_;unfold bt;have h1:(List.take off cs).length=off:=by rw[asc]; omega
 rw[ass,asL (by omega),asW (by omega),asO,asm (by omega),arX (by omega)]
end

end Go.cf

namespace Go.cf
open Go
section
variable {P:Program} {l:ap} {aG:Operand->ad}
@[simp ↓] theorem aqz:b5 P aG l (.zd none)=some (.mp l.length,l++[.map [] 0]) :=id rfl
@[simp ↓] theorem aqu (dD:TypeId) (zero:ad) (ok:Bool) (m k:Operand) :b5 P aG l (.DV dD zero ok m k)=dV l (y8 P l dD zero ok (aG m) (aG k)) :=id rfl
@[simp ↓] theorem aqB (dD:TypeId) (m k x:Operand) :b5 P aG l (.Bo dD m k x)=(u4 P l dD (aG m) (aG k) (aG x)).map fun l'=>(jg,l') :=id rfl
@[simp ↓] theorem aqt (x:Operand) :b5 P aG l (.Bj x)=dV l (HI l (aG x)) :=id rfl
@[simp ↓] theorem aqG (x:Operand) :b5 P aG l (.BD x)=En l (aG x) :=id rfl
@[simp ↓] theorem aqE (x:Operand) :b5 P aG l (.Br x)=w9 l (aG x) :=id rfl
@[simp ↓] theorem apI (x:Option Operand) (v:ad) (K:ad->ap->Prop) :eY (.zd x) v l K=K v l:=id rfl
@[simp ↓] theorem apD (dD:TypeId) (zero:ad) (ok:Bool) (m k:Operand) (v:ad) (K:ad->ap->Prop) :eY (.DV dD zero ok m k) v l K=K v l:=id rfl
@[simp ↓] theorem apK (dD:TypeId) (m k x:Operand) (v:ad) (K:ad->ap->Prop) :eY (.Bo dD m k x) v l K=K v l:=id rfl
@[simp ↓] theorem apC (x:Operand) (v:ad) (K:ad->ap->Prop) :eY (.Bj x) v l K=K v l:=id rfl
@[simp ↓] theorem apP (x:Operand) (v:ad) (K:ad->ap->Prop) :eY (.BD x) v l K=K v l:=id rfl
@[simp ↓] theorem apN (x:Operand) (v:ad) (K:ad->ap->Prop) :eY (.Br x) v l K=K v l:=id rfl
end

section
variable {z:Nat} {l l' : ap} {v:ad} {j:Nat} {es:List (List ad)}
theorem zN (h:bB z l v j es) {by_:Nat} {x:ad} {xs:List (List ad)} (ai:dA l z x=some (xs.flatten,xs.length)) (mv:∀ e∈xs,e.length=z) (aB:z≠0) (eD:by_≠0) (dO:(es.length+xs.length)*by_<=cK) :
  ∃ a8 bK l',i1 l z by_ v x=some (a8,l')/\bB z l' a8 bK (es++xs)/\l.length<=l'.length/\(∀ b,b<l.length->v=.aV\/b≠j->l'[b]? = l[b]?)/\(l.length<=bK\/(v≠.aV/\bK=j)\/a8=.aV)/\cx a8=(cx v&&xs.isEmpty) :=by
 by_cases aw:v=.aV
 ·subst aw;have ao:es=[] :=h.q.qX;subst ao;obtain⟨a8,bK,l1,h1,ae,al,aE,aU,bz⟩:=pb (.nil (z:=z) (l:=l) (l.length+1)) ai mv aB eD dO;refine⟨a8,bK,l1,h1,ae,al,fun b ag _=>aE b ag (by omega),?_,uX bz⟩;rcases aU with aU | aU
  ·exact .inl (by omega)
  ·exact .inl aU
 ·obtain⟨a8,bK,l1,h1,ae,al,aE,aU,bz⟩:=pb h ai mv aB eD dO;refine⟨a8,bK,l1,h1,ae,al,fun b ag aF=>aE b ag (aF.resolve_left aw),?_,uX bz⟩;rcases aU with aU | aU
  ·exact .inr (.inl ⟨aw,aU⟩)
  ·exact .inl aU
theorem bB.cy (h:bB z l v j es) (aD:∀ b,b<l.length->b=j->l'[b]? = l[b]?) :bB z l' v j es:=h.frame fun aj=>aD j aj rfl
theorem dt.abj {K:ad->ap->Prop} (h:bB z l v j es) (aw:cx v=false) (bl:K (.cq z es) (l.set j .dead)) :dt v l (c:=⟨K⟩) :=by
 cases h with
 | nil j=>cases aw
 | au j n cap sz cs es ag am aF av ah c9 cb=>
 have aM:=e7 ag;have bN:(b8 (l.set j .dead)).f j=.dead:=by rw[o6,atD,if_pos rfl,if_pos aM]
 have dT:n*z<=cap*z:=ar2 _ ah;refine .inr ⟨_,_,⟨by simp,fun bw=>?_⟩,.au z j 0 n cap sz cs es (ly.2 ag) bN aF av (by omega) (fun i k e c c' ao hk nn=>?_),bl⟩
 ·by_cases ca:bw=j
  ·subst ca; exact .inr ⟨sz,cs,ly.2 ag,.inl bN⟩
  ·left;rw[o6,o6,atD,if_neg (by omega)]
 ·have Dg:k<z:=by rw[<-av e (ar4 ao)]; exact (arY.1 hk).1
  have ax:=(arY.1 ao).1;have hm:i*z+z<=n*z:=by rw[<-asB]; exact ar2 _ (by omega)
  have h1:=FP av ao Dg;rw[<-cb,asf (by omega),hk] at h1;rw[as8,h1] at nn;cases nn;exact .same _
end
inductive mG where
 | b
 | i (k:IntKind)
 | s
def EF:mG->ad->Bool
 | .b,.bool _=>true
 | .i k,.int k' _=>decide (k=k')
 | .s,.str _=>true
 | _,_=>false
def ih:List mG->List ad->Bool
 | [],[]=>true
 | k::bW,c::cs=>EF k c&&ih bW cs
 | _,_=>false
theorem D4:∀ {bW:List mG} {cs:List ad},ih bW cs=true->cs.length=bW.length
 | [],[],_=>rfl
 | [],_::_,h=>by cases h
 | _::_,[],h=>by cases h
 | k::bW,c::cs,h=>by simp only[ih,ar3] at h; simp[D4 h.2]
theorem D5:∀ {l r:List mG} {m:List ad},ih (l++r) m=true->∃ g9 lk,m=g9++lk/\ih l g9=true/\ih r lk=true
 | [],r,m,h=>⟨[],m,rfl,rfl,h⟩
 | k::l,r,[],h=>by cases h
 | k::l,r,c::m,h=>by
  simp only[as5,ih,ar3] at h;obtain⟨g9,lk,rfl,h1,ae⟩:=D5 h.2;exact⟨c::g9,lk,rfl,by simp[ih,h.1,h1],ae⟩
theorem UK {k:IntKind} {xs:List ad} (h:ih [.i k] xs=true) :∃ p,xs=[.int k p] :=by
 cases xs with
 | nil=>cases h
 | cons c r=>
  simp only[ih,ar3] at h;cases r with
  | cons _ _=>cases h.2
  | nil=>
   cases c<;>simp only[EF] at h<;>try (cases h.1; done)
   rename_i k' p;have hk:k=k':=by simpa using h.1
   subst hk;exact⟨p,rfl⟩
theorem Jt:∀ {gg hp gI ji:List ad},gg.length=hp.length->fk (gg++gI) (hp++ji)=(fk gg hp&&fk gI ji)
 | [],[],_,_,_=>by simp[fk]
 | [],_::_,_,_,h=>by simp at h
 | _::_,[],_,_,h=>by simp at h
 | a::gg,b::hp,gI,ji,h=>by
  simp only[asp,Nat.add_right_cancel_iff] at h;simp only[as5,fk,Jt h,Bool.and_assoc]
section
variable (P:Program)
def HF (f:TypeId->Option (List mG)) :List Field->Nat->Option (List mG)
 | [],_=>some []
 | fd::fs,o=>match f fd.type,cG P fd.type with
  | some l,some z=>match fd.name != "_"&&Nat.beq fd.offset o&&Nat.beq l.length z with
   | true=>match HF f fs (o+z) with
    | some r=>some (l++r)
    | none=>none
   | false=>none
  | _,_=>none
def r4:Nat->TypeId->Option (List mG)
 | 0,_=>none
 | d+1,t=>match P.underlying t with
  | some .bool=>some [.b]
  | some (.int k)=>some [.i k]
  | some .string=>some [.s]
  | some (.array n e)=>match r4 d e,cG P e with
   | some l,some z=>match Nat.beq l.length z with
    | true=>some (List.replicate n l).flatten
    | false=>none
   | _,_=>none
  | some (.struct fs)=>match P.stoodInHeld t with
   | false=>HF P (r4 d) fs.toList 0
   | true=>none
  | _=>none
def lA (t:TypeId) (l:List ad) :Option ad:=match eA P t with
 | some true=>some (.aI l)
 | some false=>l[0]?
 | none=>none
end
variable {P:Program}
theorem Ia {t:TypeId} {z:Nat} (av:cG P t=some z) {pre mid post:List ad} (hm:mid.length=z) (ar:eA P t=some false->mid.length=1) :ij P t (pre++(mid++post)) pre.length=lA P t mid:=by
 unfold ij lA;rw[av];cases az:eA P t with
 | none=>rfl
 | some g=>
  cases g with
  | true=>
   simp only;rw[if_pos (by simp; omega),avw,asm (by omega),arX (by omega)]
  | false=>
   have:=ar az;simp only;rw[ar8 (by omega),aui,arZ (by omega)]
def EqAt (P:Program) (f:TypeId->Option (List mG)) (eq:TypeId->ad->ad->Option Bool) :Prop:=
 ∀ t bW,f t=some bW->(eA P t=some false->bW.length=1)/\∀ xs bh,ih bW xs=true->ih bW bh=true->∃ a b,lA P t xs=some a/\lA P t bh=some b/\eq t a b=some (fk xs bh)
theorem Qw {f:TypeId->Option (List mG)} {eq:TypeId->ad->ad->Option Bool} (ao:EqAt P f eq) :∀ (fs:List Field) (o:Nat) (bW:List mG),HF P f fs o=some bW->∀ (pM pN cX pG:List ad),pM.length=o->pN.length=o->ih bW cX=true->ih bW pG=true->
  eW.eqFields P eq (pM++cX) (pN++pG) fs=some (fk cX pG)
 | [],o,bW,h,pM,pN,cX,pG,ai,ay,r5,u0=>by
  cases h;cases cX with
  | nil=>cases pG with | nil=>rfl | cons _ _=>cases u0
  | cons _ _=>cases r5
 | fd::fs,o,bW,h,pM,pN,cX,pG,ai,ay,r5,u0=>by
  unfold HF at h;split at h
  ·rename_i l z am av;split at h
   ·rename_i ah;simp only[ar3,bne_iff_ne,ne_eq] at ah;split at h
    ·rename_i r aA;cases h;obtain⟨gg,gI,rfl,aX,bg⟩:=D5 r5;obtain⟨hp,ji,rfl,dx,di⟩:=D5 u0;have aq:fd.offset=o:=as7 ah.1.2;have GY:l.length=z:=as7 ah.2;obtain⟨aL,aT⟩:=ao _ _ am;obtain⟨a,b,qg,oC,uq⟩:=aT gg hp aX dx;have MP:=D4 aX;have MQ:=D4 dx;unfold eW.eqFields;rw[if_neg ah.1.1,aq];rw[show ij P fd.type (pM++(gg++gI)) o=some a by rw[<-ai,Ia av (by omega) (fun h=>by rw[MP]; exact aL h)]; exact qg];rw[show ij P fd.type (pN++(hp++ji)) o=some b by rw[<-ay,Ia av (by omega) (fun h=>by rw[MQ]; exact aL h)]; exact oC];simp only[uq];rw[Jt (by omega)];have aO:=Qw ao fs (o+z) r aA (pM++gg) (pN++hp) gI ji (by simp; omega) (by simp; omega) bg di;rw[ass,ass] at aO;cases fk gg hp with
     | true=>simpa using aO
     | false=>simp
    ·cases h
   ·cases h
  ·cases h
theorem Qv {eq:TypeId->ad->ad->Option Bool} {e:TypeId} {l:List mG} {z:Nat} (av:cG P e=some z) (GY:l.length=z) (ar:eA P e=some false->l.length=1)
  (ao:∀ xs bh,ih l xs=true->ih l bh=true->∃ a b,lA P e xs=some a/\lA P e bh=some b/\eq e a b=some (fk xs bh)) :∀ (n i:Nat) (pM pN cX pG:List ad),pM.length=i*z->pN.length=i*z->ih (List.replicate n l).flatten cX=true->ih (List.replicate n l).flatten pG=true->
  eW.sO P eq e z (pM++cX) (pN++pG) n i=some (fk cX pG)
 | 0,i,pM,pN,cX,pG,ai,ay,r5,u0=>by
  simp only[List.replicate_zero,List.flatten_nil] at r5 u0;cases cX with
  | nil=>cases pG with | nil=>rfl | cons _ _=>cases u0
  | cons _ _=>cases r5
 | n+1,i,pM,pN,cX,pG,ai,ay,r5,u0=>by
  rw[atd,as4] at r5 u0;obtain⟨gg,gI,rfl,aX,bg⟩:=D5 r5;obtain⟨hp,ji,rfl,dx,di⟩:=D5 u0;obtain⟨a,b,qg,oC,uq⟩:=ao gg hp aX dx;have MP:=D4 aX;have MQ:=D4 dx;unfold eW.sO;rw[show ij P e (pM++(gg++gI)) (i*z)=some a by rw[<-ai,Ia av (by omega) (fun h=>by rw[MP]; exact ar h)]; exact qg];rw[show ij P e (pN++(hp++ji)) (i*z)=some b by rw[<-ay,Ia av (by omega) (fun h=>by rw[MQ]; exact ar h)]; exact oC];simp only[uq];rw[Jt (by omega)];have aO:=Qv av GY ar ao n (i+1) (pM++gg) (pN++hp) gI ji (by simp[asB]; omega) (by simp[asB]; omega) bg di;rw[ass,ass] at aO;cases fk gg hp with
  | true=>simpa using aO
  | false=>simp
theorem FF:∀ (d D:Nat),d<=D->EqAt P (r4 P d) (eW P D)
 | 0,D,_,t,bW,h=>by cases h
 | d+1,0,bN,t,bW,h=>by omega
 | d+1,D+1,bN,t,bW,h=>by
  have aO:=FF d D (by omega);unfold r4 at h;split at h
  ·rename_i aP;have az:eA P t=some false:=by unfold eA; rw[aP]; rfl
   cases h;refine⟨fun _=>rfl,fun xs bh ai ay=>?_⟩
   match xs,bh,ai,ay with
   | [.bool p],[.bool q],_,_=>
    refine⟨.bool p,.bool q,by simp[lA,az],by simp[lA,az],?_⟩;unfold eW; rw[aP];cases p<;>cases q<;>rfl
  ·rename_i k aP;have az:eA P t=some false:=by unfold eA; rw[aP]; rfl
   cases h;refine⟨fun _=>rfl,fun xs bh ai ay=>?_⟩;obtain⟨p,rfl⟩:=UK ai;obtain⟨q,rfl⟩:=UK ay
   ·refine⟨.int k p,.int k q,by simp[lA,az],by simp[lA,az],?_⟩;unfold eW; rw[aP];by_cases h:p=q<;>simp[fk,ad.beq,h]
  ·rename_i aP;have az:eA P t=some false:=by unfold eA; rw[aP]; rfl
   cases h;refine⟨fun _=>rfl,fun xs bh ai ay=>?_⟩
   match xs,bh,ai,ay with
   | [.str p],[.str q],_,_=>
    refine⟨.str p,.str q,by simp[lA,az],by simp[lA,az],?_⟩;unfold eW; rw[aP];by_cases h:p=q<;>simp[fk,ad.beq,h]
  ·rename_i n e aP;have az:eA P t=some true:=by unfold eA; rw[aP]; rfl
   split at h
   ·rename_i l z am av;split at h
    ·rename_i GY;cases h;obtain⟨aL,aT⟩:=aO _ _ am;refine⟨fun h=>(by rw[az] at h; cases h),fun xs bh ai ay=>⟨.aI xs,.aI bh,by simp[lA,az],by simp[lA,az],?_⟩⟩;unfold eW; rw[aP];simp only[av];exact Qv av (as7 GY) aL aT n 0 [] [] xs bh (by simp) (by simp) ai ay
    ·cases h
   ·cases h
  ·rename_i fs aP;have az:eA P t=some true:=by unfold eA; rw[aP]; rfl
   split at h
   ·rename_i ak;refine⟨fun h=>(by rw[az] at h; cases h),fun xs bh ai ay=>⟨.aI xs,.aI bh,by simp[lA,az],by simp[lA,az],?_⟩⟩;unfold eW; rw[aP];simp only[ak,atb,if_false];exact Qw aO fs.toList 0 bW h [] [] xs bh rfl rfl ai ay
   ·cases h
  ·cases h
theorem Fc {t:TypeId} {bW:List mG} (hk:r4 P 20 t=some bW) (az:eA P t=some true) (ar:P.eqGuardType P.depth t=false) {xs bh:List ad} (ai:ih bW xs=true) (ay:ih bW bh=true) :gq P .eql t (.aI xs) (.aI bh)=some (.bool (fk xs bh)) :=by
 obtain⟨a,b,qg,oC,uq⟩:=(FF (P:=P) 20 10000 (by omega) t bW hk).2 xs bh ai ay;simp only[lA,az,Option.some.injEq] at qg oC;subst qg; subst oC;exact YT ar uq
theorem Fe {t:TypeId} {bW:List mG} (hk:r4 P 20 t=some bW) (az:eA P t=some true) (ar:P.eqGuardType P.depth t=false) {xs bh:List ad} (ai:ih bW xs=true) (ay:ih bW bh=true) :gq P .neq t (.aI xs) (.aI bh)=some (.bool (!fk xs bh)) :=by
 obtain⟨a,b,qg,oC,uq⟩:=(FF (P:=P) 20 10000 (by omega) t bW hk).2 xs bh ai ay;simp only[lA,az,Option.some.injEq] at qg oC;subst qg; subst oC;exact YU ar uq
end Go.cf

namespace Go.cf
open Go Go.Proofs Go.Shelf
structure B1 (P:Program) (f:FuncId) (T I e z:Nat) :Prop where
 zA:P.underlying T=some (.slice e)
 aks:P.underlying I=some (.int .i64)
 fin:∀ (base:Option Addr) (n c eN fq hd:Nat) (r:Value) (w w' : World),n<=c->n<=4611686018427387904->(base=none->n=0/\c=0)->
  (Builtin.append_ #[T,T] T #[.slice base n c,.slice (some ⟨fq,hd,none⟩) 1 eN]).run P w=.ok r w'->
  Calls P f #[.slice base n c,.int .i64 n,.slice (some ⟨fq,hd,none⟩) 1 eN] w fun x w2=>x=.returned r/\w2=w'
 shift:∀ (b off n c i fq hd eN:Nat) (ce bI:Value) (w jR hT:World) (zw fA:TypeId) (qT tm:Nat),i<n->n+1<=c->n<=4611686018427387904->fq≠b->
  w.shape? fq=some (zw,qT)->w.shape? b=some (fA,tm)->tm≠0->w.frozen? ⟨fq,hd,none⟩=false->w.frozen? ⟨fq,qT,none⟩=false->
  (Builtin.copy_ #[T,T] I #[.slice (some ⟨b,off+(i+1)*z,none⟩) (n - i) (c - (i+1)),.slice (some ⟨b,off+i*z,none⟩) (n+1 - i) (c - i)]).run P w.drew=.ok ce jR->
  (Builtin.copy_ #[T,T] I #[.slice (some ⟨b,off+i*z,none⟩) (n+1 - i) (c - i),.slice (some ⟨fq,hd,none⟩) 1 eN]).run P jR=.ok bI hT->
  Calls P f #[.slice (some ⟨b,off,none⟩) n c,.int .i64 i,.slice (some ⟨fq,hd,none⟩) 1 eN] w fun x w2=>x=.returned (.slice (some ⟨b,off,none⟩) (n+1) c)/\w2=hT
 grow:∀ (b off n c i fq hd eN N G:Nat) (ce bI:Value) (w vB jR hT:World),i<n->n<=c->c<n+1->n+1<=G->n<=4611686018427387904->
  (Builtin.append_ #[T,I] T #[.slice (some ⟨b,off,none⟩) i c,.int .i64 ((n:Int)+1 - (i:Int))]).run P w=.ok (.slice (some ⟨N,0,none⟩) (n+1) G) vB->
  (Builtin.copy_ #[T,T] I #[.slice (some ⟨N,i*z,none⟩) (n+1 - i) (G - i),.slice (some ⟨fq,hd,none⟩) 1 eN]).run P vB=.ok ce jR->
  (Builtin.copy_ #[T,T] I #[.slice (some ⟨N,(i+1)*z,none⟩) (n - i) (G - (i+1)),.slice (some ⟨b,off+i*z,none⟩) (n - i) (c - i)]).run P jR.drew=.ok bI hT->
  Calls P f #[.slice (some ⟨b,off,none⟩) n c,.int .i64 i,.slice (some ⟨fq,hd,none⟩) 1 eN] w fun x w2=>x=.returned (.slice (some ⟨N,0,none⟩) (n+1) G)/\w2=hT
section
variable {P:Program} {G:Nat->ad} {R:Nat->Prop} {B:Nat} {w:World} {h:a6} {μ:cR}
theorem HJ (rel:cc R B w h μ) {b sz o n:Nat} {cs:List ad} {m:M} (ag:h.f b=.cells sz cs) (hm:μ b=some m) (cZ:o+n<=sz) :
  ∃ vs:List Value,ub w R h μ ((cs.drop o).take n) vs/\(loadCells ⟨m.r,m.s+o,none⟩ n).run P w=.ok vs.toArray w:=by
 have eX:=rel.blk b m hm;rw[ag] at eX;obtain⟨eE,e8,arr,e,gB,aA,cM,mW,jX⟩:=eX;have bn:((cs.drop o).take n).length=n:=by rw[asc,atg]; omega
 obtain⟨vs,cI,am⟩:=NW (P:=P) (w:=w) (R:=R) (h:=h) (μ:=μ) (w2:=w) (xs:=(cs.drop o).take n) (blk:=m.r) (o:=m.s+o) (fun _=>rfl) (fun j c aj=>by
  have aM:j<n:=by have:=(arY.1 aj).1; omega
  rw[asf aM,asE] at aj;obtain⟨v,h1,ae,al⟩:=jX (o+j) c aj;refine⟨v,?_,ae,al⟩;simp only[World.cell?,aA,atU];rw[atJ];exact h1)
 refine⟨vs,cI,?_⟩;have:=am n (by omega) w (fun _=>rfl)
 rwa [arX (by rw[cI.1,bn]; exact ar0 _)] at this
theorem Ft (rel:cc R B w h μ) {t u ty e z:Nat} (lc:P.underlying t=some (.slice e)) (av:cG P e=some z) {b sz k:Nat} {cs:List ad} {m:M} (ag:h.f b=.cells sz cs) (hm:μ b=some m) (hk:k<=sz)
  {dLen dc sLen sc cnt:Nat} {a:Addr} {xs:List ad} {vs:List Value} (AB:Nat.min sLen dLen=cnt) (a2:xs.length=cnt*z) (adE:(loadCells a (cnt*z)).run P w=.ok vs.toArray w)
  (cI:ub w R h μ xs vs) (e8:m.s+max sz (k+cnt*z)<=m.T) :
  ∃ w',(Builtin.copy_ #[t,u] ty #[.slice (some ⟨m.r,m.s+k,none⟩) dLen dc,.slice (some a) sLen sc]).run P w=.ok (goInt cnt) w' ∧
   dQ w h μ w' (h.set b (.cells (max sz (k+cnt*z)) (bt cs k xs))) μ/\cc R B w' (h.set b (.cells (max sz (k+cnt*z)) (bt cs k xs))) μ:=by
 obtain⟨w',h1,ae,al⟩:=zC (P:=P) rel (cvs:=xs) (vs:=vs) (k:=k) ag hm hk cI.1 (by rw[a2]; exact e8) cI.2;rw[a2] at ae al;refine⟨w',?_,ae,al⟩;simp[Builtin.copy_,cF lc,Builtin.lenOf,Builtin.firstCells,fT av,AB,adE,h1]
theorem V2 {bX:World} {h1:a6} {hE:cR} (q5:cc R B bX h1 hE) (ex:dQ w h μ bX h1 hE) {b z n nc ns:Nat} {row:List ad} {v:Value} (aD:h1.f=bY h.f b (.cells ns row)) (aF:h1.n=h.n) (s7:ns=nc*z) (aB:0<n) (po:b<h.n)
  (aw:aS bX R h1 hE (.au z b 0 n nc ns) v) :
  ∃ μ',dQ w h μ bX ((h.set b .dead).push (.cells ns row)) μ'/\cc R B bX ((h.set b .dead).push (.cells ns row)) μ'/\aS bX R ((h.set b .dead).push (.cells ns row)) μ' (.au z h.n 0 n nc ns) v:=by
 have g3:h1.f b=.cells ns row:=by rw[aD,kL]
 cases aw with
 | gX _ _ _ _ _ _ _ _ _ _ ar=>
  exfalso;rcases ar with ar | ⟨hy,cs',ar,aM⟩
  ·rw[g3] at ar; cases ar
  ·rw[g3] at ar; cases ar; omega
 | ik=>omega
 | au _ _ _ _ _ _ cap' oA m lJ hm am aq du=>
  have qL:=q5.V1 (b:=b) (off:=0) (m:=m) (h':=(h.set b .dead).push (.cells ns row)) g3 hm (ato _) (by
   rw[eH,ed,fa,aD,aF];funext x;simp only[bY,auT,as1];by_cases ae:x=h.n
   ·rw[if_pos ae,if_pos ae]
   ·rw[if_neg ae,if_neg ae];split<;>rfl) (by rw[fL,fa,aF])
  refine⟨_,ex.trans qL.1,qL.2,?_⟩;rw[aF];exact .au z h.n 0 n nc ns cap' row ⟨m.r,m.s+0,m.T⟩ (by rw[eH,fa,kL]) (by simp) am aq (by
   rcases du with du | ⟨nn,md,AA⟩
   ·omega
   ·exact .inr ⟨nn,md,by simpa using AA⟩)
theorem PF (w:World) :RowKit.Below w.heap.size w w.drew:=⟨rfl,rfl,rfl,ar0 _,fun _ _=>rfl⟩
theorem afm {z i len:Nat} {cs vs:List ad} (kS:vs.length=z) (ax:i<len) (am:len*z<=cs.length) :
  bt (bt cs ((i+1)*z) ((cs.drop (i*z)).take ((len - i)*z))) (i*z) vs=mw z cs vs i len:=by
 have h1:(i+1)*z=i*z+z:=by rw[asB]
 have ae:(i+1)*z<=len*z:=ar2 _ ax;have al:i*z+(len - i)*z=len*z:=by rw[<-asA]; congr 1; omega
 have aE:(len+1)*z=len*z+z:=by rw[asB]
 have gc:((cs.drop (i*z)).take ((len - i)*z)).length=(len - i)*z:=by rw[asc,atg]; omega
 have cv:(cs.take ((i+1)*z)).length=i*z+z:=by rw[asc]; omega
 unfold mw bt;rw[gc,kS];have aR:(i+1)*z+(len - i)*z=(len+1)*z:=by omega
 rw[aR,ass (cs.take ((i+1)*z)),asm (by rw[cv]; omega),aty,show min (i*z) ((i+1)*z)=i*z by omega];rw[show i*z+z=(cs.take ((i+1)*z)).length by rw[cv],avw];simp only[ass]
theorem afj {z i len:Nat} {cs vs:List ad} (kS:vs.length=z) (ax:i<len) (am:len*z=cs.length) :
  bt (bt (cs.take (i*z)) (i*z) vs) ((i+1)*z) ((cs.drop (i*z)).take ((len - i)*z))=mw z cs vs i len:=by
 have h1:(i+1)*z=i*z+z:=by rw[asB]
 have ae:(i+1)*z<=len*z:=ar2 _ ax;have al:i*z+(len - i)*z=len*z:=by rw[<-asA]; congr 1; omega
 have aE:(len+1)*z=len*z+z:=by rw[asB]
 have cv:(cs.take (i*z)).length=i*z:=by rw[asc]; omega
 have h8:bt (cs.take (i*z)) (i*z) vs=cs.take (i*z)++vs:=by
  unfold bt;rw[asV (by rw[cv]; omega),asD,arX (by rw[cv]; exact ar0 _)]
 rw[h8];unfold mw bt;have aR:(cs.take (i*z)++vs).take ((i+1)*z)=cs.take (i*z)++vs:=arX (by rw[asa,cv,kS]; omega);have bE:∀ k,(cs.take (i*z)++vs).drop ((i+1)*z+k)=[] :=fun k=>asV (by rw[asa,cv,kS]; omega)
 have c4:cs.drop ((len+1)*z)=[] :=asV (by omega);rw[aR,bE,c4]
theorem agl (a b z:Nat) :max a b*z=max (a*z) (b*z) :=by
 rcases Nat.le_total a b with h | h
 ·rw[aun h,aun (ar2 _ h)]
 ·rw[avt h,avt (ar2 _ h)]
theorem afe {T e z by_:Nat} (cM:i2 P T=some e) (av:cG P e=some z) (eD:jn P e=some by_) (qG:0<z) (yn:0<by_) (ib:tS P e=some z)
  {b bv len cap:Nat} {cs vs:List ad} (ag:h.f b=.cells (cap*z) cs) (eE:cs.length=cap*z) (i5:h.f bv=.cells z vs) (kS:vs.length=z) (pw:len<=cap) (dO:(len+1)*by_<=cK) :
  sI P h T (.au z b 0 len cap (cap*z)) (.au z bv 0 1 1 z)=some (.au z b 0 (len+1) (max cap (len+1)) (max cap (len+1)*z),h.set b (.cells (max cap (len+1)*z) (mw z cs vs len len))) :=by
 have aE:(len+1)*z=len*z+z:=by rw[asB]
 have dT:len*z<=cap*z:=ar2 _ pw;have cI:mw z cs vs len len=cs.take (len*z)++vs++cs.drop ((len+1)*z) :=by simp[mw]
 have mq:(vs.drop 0).take (1*z)=vs:=by rw[as1,auG,arX (by omega)]
 unfold sI;rw[cM];simp only[av,eD,contents,i5,and_self,if_true,mq];unfold vG;rw[if_neg (by omega),if_neg (by rw[ib]; simp; omega)];simp only[ag,true_and,dO,if_true];by_cases aD:len+1<=cap
 ·have SO:(len+1)*z<=cap*z:=ar2 _ aD;rw[if_pos aD,avt aD,cI];simp only[bt,as8,kS,<-aE]
 ·obtain rfl:len=cap:=by omega
  rw[if_neg aD,if_neg (by omega),aun (by omega),cI,asV (by omega),asD]
theorem Mt {f T I e z by_:Nat} (L:B1 P f T I e z) (cM:i2 P T=some e) (av:cG P e=some z) (eD:jn P e=some by_) (qG:0<z) (yn:0<by_) (ib:tS P e=some z)
  {b bv len cap i:Nat} {cs vs:List ad} (ag:h.f b=.cells (cap*z) cs) (i5:h.f bv=.cells z vs) (bU:bv≠b) (ax:i<=len) (pw:len<=cap) (dO:(len+1)*by_<=cK) :
  sv P G f [.au z b 0 len cap (cap*z),.int .i64 i,.au z bv 0 1 1 z] h (.au z h.n 0 (len+1) (max cap (len+1)) (max cap (len+1)*z)) ((h.set b .dead).push (.cells (max cap (len+1)*z) (mw z cs vs i len))) :=by
 intro R B w μ eI rel FW am aw;obtain⟨oZ⟩:=eI
 match oZ,am with
 | [v0,eh,dz],_=>
 have iP:=aw 0 _ v0 rfl rfl;have mq:=aw 1 _ eh rfl rfl;have qQ:=aw 2 _ dz rfl rfl;have L6:=qQ;cases mq;have pj:len<=4611686018427387904:=by
  have:=Nat.le_mul_of_pos_right (len+1) yn;unfold cK at dO;omega
 have LA:Bq P T:=⟨_,L.zA,fun k hk=>by cases hk⟩
 have kn:=agl cap (len+1) z;have aE:(len+1)*z=len*z+z:=by rw[asB]
 have dT:len*z<=cap*z:=ar2 _ pw;cases qQ with
 | gX _ _ _ _ _ _ _ _ _ _ ar=>
  exfalso;rcases ar with ar | ⟨hy,cs',ar,aM⟩
  ·rw[i5] at ar; cases ar
  ·rw[i5] at ar; cases ar; omega
 | au _ _ _ _ _ _ eN akD gO acz yF qE Dr kk=>
 have C1:=rel.blk bv gO yF;rw[i5] at C1;obtain⟨kS,anX,Py,dR,anq,LW,anF,Sj,anS⟩:=C1;by_cases cY:i=len
 ·subst cY;have adK:∃ a cap',v0=.slice (some a) i cap'/\i<=cap'/\cs.length=cap*z/\b<h.n:=by
   cases iP with
   | gX _ _ _ _ _ _ _ _ _ _ ar=>
    exfalso;rcases ar with ar | ⟨hy,cs',ar,aM⟩
    ·rw[ag] at ar; cases ar
    ·rw[ag] at ar; cases ar; omega
   | ik _ _ _ _ a oA m lJ hm=>
    have eX:=rel.blk b m hm;rw[ag] at eX;exact⟨a,0,rfl,ar0 _,eX.1,rel.sK hm⟩
   | au _ _ _ _ _ _ cap' oA m lJ hm am aq du=>
    have eX:=rel.blk b m hm;rw[ag] at eX;exact⟨_,cap',rfl,by omega,eX.1,rel.sK hm⟩
  obtain⟨a,cap',rfl,GU,eE,po⟩:=adK;obtain⟨v,bX,hE,iO,qw,LU,uS⟩:=Jn (P:=P) (ty:=T) (u:=T) rel LA (afe (P:=P) cM av eD qG yn ib ag eE i5 kS pw dO) iP L6;refine (L.fin (some a) i cap' eN gO.r (gO.s+0) v w bX GU pj (fun h=>by cases h) iO).mono ?_;rintro x w2 ⟨rfl,rfl⟩;obtain⟨μ',h1,ae,al⟩:=V2 (h:=h) LU qw (b:=b) (row:=mw z cs vs i i) (ns:=max cap (i+1)*z) (ed _ _ _) rfl rfl (by omega) po uS;exact⟨v,μ',rfl,h1,ae,al⟩
 have Dd:i<len:=by omega
 have ant:(i+1)*z=i*z+z:=by rw[asB]
 have anv:(i+1)*z<=len*z:=ar2 _ Dd;have anw:i*z+(len - i)*z=len*z:=by rw[<-asA]; congr 1; omega
 cases iP with
 | gX _ _ _ _ _ _ _ _ _ _ ar=>
  exfalso;rcases ar with ar | ⟨hy,cs',ar,aM⟩
  ·rw[ag] at ar; cases ar
  ·rw[ag] at ar; cases ar; omega
 | ik=>omega
 | au _ _ _ _ _ _ cap' oA m lJ hm an9 aq du=>
 rw[ag] at lJ; cases lJ;have eX:=rel.blk b m hm;rw[ag] at eX;obtain⟨eE,anW,arr,oC,gB,aA,anE,mW,jX⟩:=eX;obtain⟨md,AA⟩:cap<=cap'/\m.s+cap'*z<=m.T:=by
  rcases du with du | ⟨nn,md,AA⟩
  ·omega
  ·exact⟨md,by simpa using AA⟩
 have po:=rel.sK hm;have Lw:gO.r≠m.r:=fun ao=>bU (rel.inj bv b gO m (by rw[i5]; rfl) (by rw[ag]; rfl) yF hm ao)
 have mq:(vs.drop 0).take z=vs:=by rw[as1,arX (by omega)]
 have gU:((cs.drop (i*z)).take ((len - i)*z)).length=(len - i)*z:=by rw[asc,atg]; omega
 by_cases e8:len+1<=cap'
 ·have SO:(len+1)*z<=cap'*z:=ar2 _ e8;obtain⟨FG,vf⟩:=NG rel (w':=w.drew) (PF w);obtain⟨ls,Ha,Ls⟩:=HJ (P:=P) vf (o:=i*z) (n:=(len - i)*z) ag hm (by omega);obtain⟨jR,qr,CH,q5⟩:=Ft (P:=P) (t:=T) (u:=T) (ty:=I) vf L.zA av (k:=(i+1)*z) ag hm (by omega) (dLen:=len - i) (dc:=cap' - (i+1)) (sLen:=len+1 - i) (sc:=cap' - i) (cnt:=len - i)
   (by simp only[avu]; split<;>omega) gU Ls Ha (by omega)
  have rY:max (cap*z) ((i+1)*z+(len - i)*z)=max cap (len+1)*z:=by omega
  rw[rY] at CH q5;have g3:(h.set b (.cells (max cap (len+1)*z) (bt cs ((i+1)*z) ((cs.drop (i*z)).take ((len - i)*z))))).f b=.cells (max cap (len+1)*z) (bt cs ((i+1)*z) ((cs.drop (i*z)).take ((len - i)*z))) :=by rw[ed,kL]
  have acA:(h.set b (.cells (max cap (len+1)*z) (bt cs ((i+1)*z) ((cs.drop (i*z)).take ((len - i)*z))))).f bv=.cells z vs:=by rw[ed,cp _ _ _ _ bU]; exact i5
  obtain⟨HP,Hb,Lt⟩:=HJ (P:=P) q5 (o:=0) (n:=z) acA yF (by omega);rw[mq] at Hb;obtain⟨hT,qs,v6,tI⟩:=Ft (P:=P) (t:=T) (u:=T) (ty:=I) q5 L.zA av (k:=i*z) g3 hm (by omega) (dLen:=len+1 - i) (dc:=cap' - i) (sLen:=1) (sc:=eN) (cnt:=1)
   (by simp only[avu]; split<;>omega) (by omega) (by rw[auG]; exact Lt) Hb (by omega)
  have qM:max (max cap (len+1)*z) (i*z+1*z)=max cap (len+1)*z:=by omega
  rw[qM,afm kS Dd (by omega)] at v6 tI;have lL:w.frozen? ⟨gO.r,gO.s+0,none⟩=false:=by
   simp only[World.frozen?,LW];rcases Sj with aB | aB
   ·subst aB; simp
   ·simp; intro al; omega
  have yu:w.frozen? ⟨gO.r,Py.size,none⟩=false:=by
   simp only[World.frozen?,LW];rcases Sj with aB | aB
   ·subst aB; simp
   ·simp; intro al; omega
  refine (L.shift m.r m.s len cap' i gO.r (gO.s+0) eN _ _ w jR hT dR oC Py.size arr.size Dd e8 pj Lw (by simp[World.shape?,LW]) (by simp[World.shape?,aA]) (by omega) lL yu qr qs).mono ?_;rintro x w2 ⟨rfl,rfl⟩;obtain⟨μ',h1,ae,al⟩:=V2 (h:=h) tI ((FG.trans CH).trans v6) (b:=b) (row:=mw z cs vs i len) (ns:=max cap (len+1)*z) (n:=len+1) (nc:=max cap (len+1)) (z:=z) (v:=.slice (some ⟨m.r,m.s+0,none⟩) (len+1) cap') (by
   rw[ed,ed];funext y;simp only[bY];split<;>rfl) rfl rfl (by omega) po (.au z b 0 (len+1) (max cap (len+1)) (max cap (len+1)*z) cap' _ m (by rw[ed,kL]) hm (by omega) (by omega) (.inr ⟨by omega,by omega,by simpa using AA⟩))
  exact⟨_,μ',rfl,h1,ae,al⟩
 ·obtain rfl:cap=len:=by omega
  obtain rfl:cap'=cap:=by omega
  obtain⟨wU,zv,Ld,mu,kr⟩:=Xv ib;have qN:wU.size=z:=by simp[cG,Ld] at av; exact av
  have mV:wU.bytes=by_:=by simp[jn,Ld] at eD; exact eD
  have b6:contents h z (.au z b 0 i cap' (cap'*z))=some ((cs.drop 0).take (i*z),i) :=by simp[contents,ag]
  obtain⟨bO,_,fW,iA,yL⟩:=vX (P:=P) rel b6 (aS.au z b 0 i cap' (cap'*z) cap' cs m ag hm (by omega) (by omega) (.inr ⟨by omega,ar0 _,by simpa using AA⟩));have Dq:=yL i (ar0 _) w.drew (fun _=>rfl);rw[arX (by rw[iA.1,bO]; exact ar0 _)] at Dq;rw[as1] at iA bO;have Tl:(cap'+1)*wU.bytes<=cK:=by rw[mV]; exact dO
  have lN:i+(cap'+1 - i)=cap'+1:=by omega
  have anL:(cap'+1 - i)*wU.bytes<=(cap'+1)*wU.bytes:=ar2 _ (by omega);have lI:=Lib.run_append_grow_zeros w T I T e wU zv .i64 .i64 L.zA L.aks Ld mu (some ⟨m.r,m.s+0,none⟩) i cap' fW (by rw[qN]; exact Dq) (cap'+1 - i) (by omega) (by omega) (by omega) (by omega) (by unfold cK at Tl; omega)
   (by rw[lN]; have:=growslice_fits (old:=cap') (need:=cap'+1) (by omega) Tl; omega)
  rw[lN] at lI;obtain⟨sy,RC⟩:∃ sy,sy=grownCap w (cap'+1) cap' e:=⟨_,rfl⟩
  have RD:cap'+1<=sy:=by rw[RC]; exact grownCap_ge w _ _ _
  rw[<-RC] at lI;obtain⟨ROW,Gf⟩:∃ ROW:Array Value,ROW=fW.toArray++Builtin.zeroCells zv.cells (cap'+1 - i)++Builtin.zeroCells zv.cells (sy - (cap'+1)) :=⟨_,rfl⟩
  rw[<-Gf] at lI;have anD:(cap'+1)*z<=ROW.size:=by
   have aR:i*z+(cap'+1 - i)*z=(cap'+1)*z:=by rw[<-asA]; congr 1
   rw[Gf];simp only[au7,au8,Builtin.zeroCells];simp[kr,iA.1];omega
  have cv:(cs.take (i*z)).length=i*z:=by rw[asc]; omega
  obtain⟨FG,vf⟩:=rel.push (w':=w.drew.alloc (.cells ROW e)) (cs.take (i*z)) ROW e rfl rfl rfl rfl (by omega) (fun j c aj=>by
   obtain⟨v,aL,aT,a7⟩:=iA.2 j c aj;refine⟨v,?_,aT,a7⟩;have aM:j<fW.length:=(arY.1 aL).1;rw[Gf,auw,atj (by simpa using aM)];simpa using aL)
  rw[cv] at FG vf;have Gx:b≠h.n:=by omega
  have anP:=rel.sK yF;have RZ:bv≠h.n:=by omega
  have py:(bY μ h.n (some ⟨w.heap.size,0,ROW.size⟩)) h.n=some ⟨w.heap.size,0,ROW.size⟩:=kL _ _ _;have adQ:(bY μ h.n (some ⟨w.heap.size,0,ROW.size⟩)) bv=some gO:=by rw[cp _ _ _ _ RZ]; exact yF
  have adL:(bY μ h.n (some ⟨w.heap.size,0,ROW.size⟩)) b=some m:=by rw[cp _ _ _ _ Gx]; exact hm
  have acp:(h.push (.cells (i*z) (cs.take (i*z)))).f h.n=.cells (i*z) (cs.take (i*z)) :=by rw[eH,kL]
  have acr:(h.push (.cells (i*z) (cs.take (i*z)))).f bv=.cells z vs:=by rw[eH,cp _ _ _ _ RZ]; exact i5
  obtain⟨HP,Ha,Ls⟩:=HJ (P:=P) vf (o:=0) (n:=z) acr adQ (by omega);rw[mq] at Ha;obtain⟨jR,qr,CH,q5⟩:=Ft (P:=P) (t:=T) (u:=T) (ty:=I) vf L.zA av (k:=i*z) acp py (ar0 _) (dLen:=cap'+1 - i) (dc:=sy - i) (sLen:=1) (sc:=eN) (cnt:=1)
   (by simp only[avu]; split<;>omega) (by omega) (by rw[auG]; exact Ls) Ha (by simp only; omega)
  have rY:max (i*z) (i*z+1*z)=(i+1)*z:=by omega
  rw[rY] at CH q5;obtain⟨aaB,VW⟩:=NG q5 (w':=jR.drew) (PF jR);have acq:((h.push (.cells (i*z) (cs.take (i*z)))).set h.n (.cells ((i+1)*z) (bt (cs.take (i*z)) (i*z) vs))).f h.n=.cells ((i+1)*z) (bt (cs.take (i*z)) (i*z) vs) :=by rw[ed,kL]
  have RW:((h.push (.cells (i*z) (cs.take (i*z)))).set h.n (.cells ((i+1)*z) (bt (cs.take (i*z)) (i*z) vs))).f b=.cells (cap'*z) cs:=by rw[ed,cp _ _ _ _ Gx,eH,cp _ _ _ _ Gx]; exact ag
  obtain⟨ls,Hb,Lt⟩:=HJ (P:=P) VW (o:=i*z) (n:=(cap' - i)*z) RW adL (by omega);obtain⟨hT,qs,v6,tI⟩:=Ft (P:=P) (t:=T) (u:=T) (ty:=I) VW L.zA av (k:=(i+1)*z) acq py (ar0 _) (dLen:=cap' - i) (dc:=sy - (i+1)) (sLen:=cap' - i) (sc:=cap' - i) (cnt:=cap' - i)
   (by simp only[avu]; split<;>omega) gU Lt Hb (by simp only; omega)
  have qM:max ((i+1)*z) ((i+1)*z+(cap' - i)*z)=(cap'+1)*z:=by omega
  rw[qM,afj kS Dd (by omega)] at v6 tI;simp only[as8] at qr qs;have adW:max cap' (cap'+1)=cap'+1:=by omega
  rw[adW];refine (L.grow m.r (m.s+0) cap' cap' i gO.r (gO.s+0) eN w.heap.size sy _ _ w _ jR hT Dd (ar0 _) (by omega) RD pj ?_ qr qs).mono ?_
  ·have:(cap' : Int)+1 - (i:Int)=((cap'+1 - i:Nat) :Int) :=by omega
   rw[this];exact lI
  rintro x w2 ⟨rfl,rfl⟩;have hk:=tI.kill (b:=b) (sz:=cap'*z) (cs:=cs) (h':=(h.set b .dead).push (.cells ((cap'+1)*z) (mw z cs vs i cap'))) (by rw[ed,cp _ _ _ _ Gx]; exact RW) (by rw[fa,fa,fL]; omega) (by
   rw[eH,ed,fa,ed,ed,eH];funext y;simp only[bY];by_cases h1:y=h.n
   ·rw[if_pos h1,if_neg (by omega),if_pos h1]
   ·rw[if_neg h1];split
    ·rfl
    ·simp[h1]) (by rw[fL,fa,fa,fa,fL])
  refine⟨_,_,rfl,(((FG.trans CH).trans aaB).trans v6).trans hk.1,hk.2,?_⟩;have:=aS.au (w:=w2) (R:=R) (h:=(h.set b .dead).push (.cells ((cap'+1)*z) (mw z cs vs i cap'))) (μ:=bY μ h.n (some ⟨w.heap.size,0,ROW.size⟩)) z h.n 0 (cap'+1) (cap'+1) ((cap'+1)*z) sy (mw z cs vs i cap') ⟨w.heap.size,0,ROW.size⟩ (by rw[eH,fa,kL]) (by simp) (ar0 _) (by omega) (.inr ⟨by omega,RD,by
   simp only;have aR:i*z+(cap'+1 - i)*z=(cap'+1)*z:=by rw[<-asA]; congr 1
   have bE:(cap'+1)*z+(sy - (cap'+1))*z=sy*z:=by rw[<-asA]; congr 1; omega
   rw[Gf];simp only[au7,au8,Builtin.zeroCells];simp[kr,iA.1];omega⟩)
  simpa using this
theorem Ms {f T I e z by_:Nat} (L:B1 P f T I e z) (cM:i2 P T=some e) (av:cG P e=some z) (eD:jn P e=some by_) (qG:0<z) (yn:0<by_) (ib:tS P e=some z)
  {bv:Nat} {vs:List ad} (i5:h.f bv=.cells z vs) (dO:by_<=cK) :
  sv P G f [.aV,.int .i64 0,.au z bv 0 1 1 z] h (.au z h.n 0 1 1 z) (h.push (.cells z vs)) :=by
 intro R B w μ eI rel FW am aw;obtain⟨oZ⟩:=eI
 match oZ,am with
 | [v0,eh,dz],_=>
 have iP:=aw 0 _ v0 rfl rfl;have mq:=aw 1 _ eh rfl rfl;have qQ:=aw 2 _ dz rfl rfl;have L6:=qQ;cases mq;have aeG:=iP;cases iP;have LA:Bq P T:=⟨_,L.zA,fun k hk=>by cases hk⟩
 cases qQ with
 | gX _ _ _ _ _ _ _ _ _ _ ar=>
  exfalso;rcases ar with ar | ⟨hy,cs',ar,aM⟩
  ·rw[i5] at ar; cases ar
  ·rw[i5] at ar; cases ar; omega
 | au _ _ _ _ _ _ eN akD gO acz yF qE Dr kk=>
 have C1:=rel.blk bv gO yF;rw[i5] at C1;obtain⟨kS,_⟩:=C1;have az:sI P h T .aV (.au z bv 0 1 1 z)=some (.au z h.n 0 1 1 z,h.push (.cells z vs)) :=by
  have mq:(vs.drop 0).take (1*z)=vs:=by rw[as1,auG,arX (by omega)]
  unfold sI;rw[cM];simp only[av,eD,contents,i5,and_self,if_true,mq];unfold vG;rw[if_neg (by omega),if_neg (by rw[ib]; simp; omega)];simp only[auG,dO,if_true]
 obtain⟨v,bX,hE,iO,qw,LU,uS⟩:=Jn (P:=P) (ty:=T) (u:=T) rel LA az aeG L6;refine (L.fin none 0 0 eN gO.r (gO.s+0) v w bX (ar0 _) (by omega) (fun _=>⟨rfl,rfl⟩) iO).mono ?_;rintro x w2 ⟨rfl,rfl⟩;exact⟨v,hE,rfl,qw,LU,uS⟩
theorem TT {f T I e z by_:Nat} (L:B1 P f T I e z) (cM:i2 P T=some e) (av:cG P e=some z) (eD:jn P e=some by_) (qG:0<z) (yn:0<by_) (ib:tS P e=some z)
  (args:List ad) (h:a6) (r:ad) (h' : a6) (ai:Bf z by_ args h=some (r,h')) :sv P G f args h r h':=by
 unfold Bf at ai;split at ai
 ·rename_i s x y;split at ai
  ·rename_i i h4 bv gP bQ dk ho iQ;have aeQ:x=.int .i64 i:=by
    unfold Pz at iQ;split at iQ
    ·split at iQ
     ·cases iQ; rfl
     ·cases iQ
    ·cases iQ
   subst aeQ;split at ai
   ·rename_i lk vs i5;split at ai
    ·rename_i ah;obtain⟨rfl,rfl,rfl,rfl,rfl,rfl,aB⟩:=ah;obtain⟨k,rfl⟩:=asQ aB;rw[asC] at ai;unfold TU at ai;cases s<;>simp only at ai<;>try (cases ai; done)
     case aV=>
      split at ai
      ·rename_i ah;obtain⟨rfl,aA⟩:=ah;cases ai;exact Ms L cM av eD qG yn ib i5 aA
      ·cases ai
     case au k0 b off len cap sz=>
      cases ag:h.f b<;>rw[ag] at ai<;>(try simp only at ai)<;>try (cases ai; done)
      split at ai
      ·rename_i ah;obtain⟨rfl,rfl,rfl,rfl,bU,ax,pw,aA⟩:=ah;cases ai;exact Mt L cM av eD qG yn ib ag i5 bU ax pw aA
      ·cases ai
    ·cases ai
   ·cases ai
  ·cases ai
 ·cases ai
end

end Go.cf

namespace Go.cf
open Go
section
variable (P:Program)
abbrev tY:=List (List Nat)
def WG (ops:Array Oper) (o:Oper) (i:Nat) (h7:List Nat) (cy:Bool) :e0:=
 let g:=match o.guard with | none=>none | some lS=>some (match ops[lS.1]? with | some ck=>ck.dst | none=>none,lS.2)
 match nO P o.op with
 | some m=>⟨i,o.dst,g,.ig m,h7,cy⟩
 | none=>match o.op with
  | .call c=>match c.callee with
   | .value (.func f)=>⟨i,o.dst,g,.ox f c.args.toList,h7,cy⟩
   | .value x=>⟨i,o.dst,g,.pd x c.args.toList,h7,cy⟩
   | .invoke x name=>⟨i,o.dst,g,.p8 x name c.args.toList,h7,cy⟩
   | _=>⟨i,none,none,.ig .stop,[],false⟩
  | _=>⟨i,none,none,.ig .stop,[],false⟩
def WJ (ops:Array Oper) :List Oper->Nat->List e0
 | [],_=>[]
 | o::r,i=>WG P ops o i [] false::WJ ops r (i+1)
def TM (i:Nat) :List Nat->Bool
 | []=>false
 | x::r=>match Nat.beq i x with | true=>true | false=>TM i r
def T5 (i:Nat) :tY->Bool
 | []=>false
 | p::r=>match TM i p.tail with | true=>true | false=>T5 i r
def Po:tY->Bool
 | []=>false
 | p::r=>match p.tail with | []=>Po r | _=>true
def Oi (ops:Array Oper) (q:tY) (n:Nat) :tY->List e0
 | []=>WJ P ops (ops.toList.drop n) n
 | p::r=>(match p with
  | []=>⟨0,none,none,.ig .stop,[],false⟩
  | i::c=>match ops[i]? with | some o=>WG P ops o i c (T5 i q) | none=>⟨0,none,none,.ig .stop,[],false⟩) ::Oi ops q n r
def NF (ops:Array Oper) (p:tY) :iZ:=match Po p with
 | true=>.CB (Oi P ops p p.length p)
 | false=>.Bz (Oi P ops p p.length p)
def aju (a b:iZ) :iZ:=match a with
 | .skip=>b
 | a=>match b with
  | .skip=>a
  | b=>.seq a b
def w3:Code->List tY->iZ × List tY
 | .skip,p=>(.skip,p)
 | .label _,p=>(.skip,p)
 | .ret,p=>(.ret,p)
 | .exit id,p=>(.exit id,p)
 | .region _ ops true,p=>match p with
  | []=>(NF P ops [],[])
  | x::p=>(NF P ops x,p)
 | .region _ ops false,p=>(NF P ops [],p)
 | .seq a b,p=>match w3 a p with | (a,p)=>match w3 b p with | (b,p)=>(aju a b,p)
 | .cond c a b,p=>match w3 a p with | (a,p)=>match w3 b p with | (b,p)=>(.cond c a b,p)
 | .block id c,p=>match w3 c p with | (c,p)=>(.block id c,p)
 | .loop c,p=>match w3 c p with | (c,p)=>(.loop c,p)
 | .scope c,p=>w3 c p
 | _,p=>(.skip,p)
def Ue (fn:Func) (p:List tY) :iZ:=match fn.body with
 | some c=>(w3 P c p).1
 | none=>.skip
def MJ:List ResultVar->List eJ
 | []=>[]
 | x::r=>(match JO P x with | some m=>m | none=>.stop) ::MJ r
end
theorem aio (x:ad) (t:List ad) :x::x::x::x::x::x::x::x::x::x::x::x::x::x::x::x::x::x::x::x::x::x::x::x::x::x::x::x::x::x::x::x::t=rep 32 x++t:=rfl
theorem aip (x:ad) (t:List ad) :rep 32 x++(rep 32 x++t)=rep 64 x++t:=rfl
theorem bm {P:Program} {f:FuncId} {fn:Func} (aD:P.funcs[f]? = some fn) (p:List tY) {c:iZ} {ms:List eJ}
  (ah:Ue P fn p=c:=by conv=>lhs; (cbv; try simp only[aio,aip,asD]))
  (aA:MJ P fn.results.toList=ms:=by conv=>lhs; cbv)
  (hk:(JN P f,JQ P f)=(some (Ue P fn p),some (MJ P fn.results.toList)) :=by kernel_rfl)
  {G:Nat->ad} {args:List ad} {l:ap} {K:vx} (h:run P G c (Jo args) l (HC P G ms K.k)) :dr P G f args l (c:=K) :=by
 rw[ah,aA] at hk;exact Zi (Prod.mk.inj hk).1 (Prod.mk.inj hk).2 h
end Go.cf

namespace Go.cf
open Go
namespace gZ
abbrev W:=BitVec 32
abbrev B:=BitVec 8
def og (x:W) (n:Nat) :W:=(x >>> n) ||| (x <<< (32 - n))
def pW (l:List B) :W:=l.foldl (fun a x=>(a <<< 8) ||| x.setWidth 32) 0#32
def part (b:List B) (k t:Nat) :W:=pW (((b.take k).drop (4*t)).take 4)
def fN (b:List B) :List W:=(List.range 16).map fun t=>pW ((b.drop (4*t)).take 4)
def ext (w:List W) :W:=
 let t:=w.length
 let x:=w.getD (t - 15) 0#32
 let y:=w.getD (t - 2) 0#32
 w.getD (t - 16) 0#32+w.getD (t - 7) 0#32+(og x 7 ^^^ og x 18 ^^^ (x >>> 3))+(og y 17 ^^^ og y 19 ^^^ (y >>> 10))
def i3:Nat->List W->List W
 | 0,w=>w
 | n+1,w=>i3 n (w++[ext w])
def fU (b:List B) :List W:=i3 48 (fN b)
def MV (x:W) (i j k:Nat) :W:=og x i ^^^ og x j ^^^ og x k
structure ct where
 (a b c d e f g h:W)
def round (s:ct) (k w:W) :ct:=
 let p:=s.h+MV s.e 6 11 25+((s.e &&& s.f) ^^^ (~~~s.e &&& s.g))+k+w
 let q:=MV s.a 2 13 22+((s.a &&& s.b) ^^^ (s.a &&& s.c) ^^^ (s.b &&& s.c))
 ⟨p+q,s.a,s.b,s.c,s.d+p,s.e,s.f,s.g⟩
def rounds:ct->List W->List W->ct
 | s,k::bW,w::hC=>rounds (round s k w) bW hC
 | s,_,_=>s
def table:List Nat:=[0x428a2f98,0x71374491,0xb5c0fbcf,0xe9b5dba5,0x3956c25b,0x59f111f1,0x923f82a4,0xab1c5ed5,0xd807aa98,0x12835b01,0x243185be,0x550c7dc3,0x72be5d74,0x80deb1fe,0x9bdc06a7,0xc19bf174,0xe49b69c1,0xefbe4786,0x0fc19dc6,0x240ca1cc,0x2de92c6f,0x4a7484aa,0x5cb0a9dc,0x76f988da,0x983e5152,0xa831c66d,0xb00327c8,0xbf597fc7,0xc6e00bf3,0xd5a79147,0x06ca6351,0x14292967,0x27b70a85,0x2e1b2138,0x4d2c6dfc,0x53380d13,0x650a7354,0x766a0abb,0x81c2c92e,0x92722c85,0xa2bfe8a1,0xa81a664b,0xc24b8b70,0xc76c51a3,0xd192e819,0xd6990624,0xf40e3585,0x106aa070,0x19a4c116,0x1e376c08,0x2748774c,0x34b0bcb5,0x391c0cb3,0x4ed8aa4a,0x5b9cca4f,0x682e6ff3,0x748f82ee,0x78a5636f,0x84c87814,0x8cc70208,0x90befffa,0xa4506ceb,0xbef9a3f7,0xc67178f2]
def bW:List W:=table.map (BitVec.ofNat 32)
def grind (h:ct) (b:List B) :ct:=
 let v:=rounds h bW (fU b)
 ⟨h.a+v.a,h.b+v.b,h.c+v.c,h.d+v.d,h.e+v.e,h.f+v.f,h.g+v.g,h.h+v.h⟩
def Jy:Nat->ct->List B->ct × List B
 | 0,h,b=>(h,b)
 | n+1,h,b=>if 64<=b.length then Jy n (grind h (b.take 64)) (b.drop 64) else (h,b)
def hU (h:ct) (b:List B) :ct × List B:=Jy (b.length / 64) h b
def first:ct:=⟨0x6a09e667#32,0xbb67ae85#32,0x3c6ef372#32,0xa54ff53a#32,0x510e527f#32,0x9b05688c#32,0x1f83d9ab#32,0x5be0cd19#32⟩
def Ch (n:BitVec 64) :List B:=[(n >>> 56).setWidth 8,(n >>> 48).setWidth 8,(n >>> 40).setWidth 8,(n >>> 32).setWidth 8,(n >>> 24).setWidth 8,(n >>> 16).setWidth 8,(n >>> 8).setWidth 8,(n >>> 0).setWidth 8]
def tail (n:Nat) :List B:=128#8::List.replicate ((119 - n % 64) % 64) 0#8++Ch (BitVec.ofNat 64 n*8#64)
def vq (w:W) :List B:=[(w >>> 24).setWidth 8,(w >>> 16).setWidth 8,(w >>> 8).setWidth 8,w.setWidth 8]
def ct.l (s:ct) :List W:=[s.a,s.b,s.c,s.d,s.e,s.f,s.g,s.h]
def written (s:ct) :List B:=(s.l.map vq).flatten
def iH (b:List B) :List B:=written (hU first (b++tail b.length)).1
theorem ak6 (l:List B) (x:B) :pW (l++[x])=(pW l <<< 8) ||| x.setWidth 32:=by simp[pW,auB]
theorem x6:∀ (n:Nat) (w:List W),(i3 n w).length=w.length+n
 | 0,w=>rfl
 | n+1,w=>by rw[i3,x6 n]; simp; omega
theorem Ew (b:List B) :(fU b).length=64:=by rw[fU,x6]; simp[fN]
theorem IY (s:ct) :(written s).length=32:=rfl
theorem vj (b:List B) :(iH b).length=32:=rfl
theorem J6:∀ (n:Nat) (w:List W),i3 (n+1) w=i3 n w++[ext (i3 n w)]
 | 0,w=>rfl
 | n+1,w=>by rw[i3,J6 n (w++[ext w])]; rfl
theorem IA (a:W) (x:B) :(a <<< 8) ||| x.setWidth 32=a*256#32+x.setWidth 32:=by
 apply asd;have ai:x.toNat<256:=x.isLt;have az:=a.isLt;rw[BitVec.toNat_or,ats,avi,at3,asj];have h1:x.toNat % 2 ^ 32=x.toNat:=asg (by omega);have ae:a.toNat <<< 8 % 2 ^ 32=(a.toNat % 2 ^ 24) <<< 8:=by rw[atn,atn]; omega
 have al:=auW (b:=x.toNat) (i:=8) (by omega) (a.toNat % 2 ^ 24);rw[h1,ae,<-al,atn];have aE:(256#32).toNat=256:=rfl;rw[aE];omega
theorem Cf (h:ct) (b:List B) (ag:64<=b.length) :hU h b=hU (grind h (b.take 64)) (b.drop 64) :=by
 have:b.length / 64=(b.drop 64).length / 64+1:=by simp; omega
 rw[hU,this,Jy,if_pos ag];rfl
theorem Fh (h:ct) (b:List B) (ag:b.length<64) :hU h b=(h,b) :=by
 rw[hU,att ag]; rfl
theorem YY (h:ct) (b:List B) :(hU h b).2.length=b.length % 64:=by
 generalize aF:b.length=n
 induction n using Nat.strongRecOn generalizing h b with
 | _ n aO=>
  rcases as3 b.length 64 with h1 | h1
  ·rw[Fh h b h1,asg (by omega)]; exact aF
  ·rw[Cf h b h1,aO (b.length - 64) (by omega) _ (b.drop 64) (by simp)];omega
theorem PK (h:ct) (a b:List B) :hU h (a++b)=hU (hU h a).1 ((hU h a).2++b) :=by
 generalize aF:a.length=n
 induction n using Nat.strongRecOn generalizing h a with
 | _ n aO=>
  rcases as3 a.length 64 with h1 | h1
  ·rw[Fh h a h1]
  ·rw[Cf h a h1,Cf h (a++b) (by simp; omega),asm h1,asL h1];exact aO (a.length - 64) (by omega) _ (a.drop 64) (by simp)
end gZ

end Go.cf

namespace Go.cf
open Go Go.Proofs
def BM:List ad:=gZ.bW.map bC
def GS:Nat->ad:=fun g=>match Nat.beq g 1 with | true=>.b0 BM 0 | false=>.bad
theorem bD:∀ g,(GS g).closed=true:=by
 intro g;unfold GS;split
 ·exact lD bC (fun _=>rfl) _
 ·rfl
@[simp]
theorem aly:GS 1=.b0 BM 0:=id rfl
theorem ajT (i:Nat) (h:i<64) :BM[i]? = some (bC (gZ.bW.getD i 0#32)) :=by
 have am:gZ.bW.length=64:=rfl;unfold BM;rw[ar5,asq,ar1 (by omega)];rfl
end Go.cf

namespace Go.cf
open Go Go.Proofs
set_option maxRecDepth 100000
namespace gZ
def NM (x:W) (k:Int) :W:=(x <<< (BitVec.ofInt 64 k &&& 31#64).toNat) ||| (x >>> (32#64 - (BitVec.ofInt 64 k &&& 31#64)).toNat)
theorem zo (x:W) (n:Nat) (aB:0<n) (h:n<32) :NM x (-(n:Int))=og x n:=by
 have h1:∀ n:Fin 32,0<n.val->(BitVec.ofInt 64 (-(n.val:Int)) &&& 31#64)=BitVec.ofNat 64 (32 - n.val) :=by decide
 have ae:=h1 ⟨n,h⟩ aB;simp only at ae;unfold NM og;rw[ae,BitVec.or_comm];congr 2
 ·have:∀ n:Fin 32,0<n.val->(32#64 - BitVec.ofNat 64 (32 - n.val)).toNat=n.val:=by decide
  exact this ⟨n,h⟩ aB
 ·have:∀ n:Fin 32,0<n.val->(BitVec.ofNat 64 (32 - n.val)).toNat=32 - n.val:=by decide
  exact this ⟨n,h⟩ aB
theorem zn (x:W) (k:Int) :bx Tryz.prog GS 267 [bC x,.int .i64 k] (bC (NM x k)) :=by
 refine bH Tryz.checked.mixed bD ?_;apply bm Tryz.func267 [];simp;exact aK rfl rfl
theorem Un (x:W) (i j k:Nat) (ax:0<i/\i<32) (aj:0<j/\j<32) (hk:0<k/\k<32) :bx Tryz.prog GS 266 [bC x,.int .i64 i,.int .i64 j,.int .i64 k] (bC (MV x i j k)) :=by
 refine bH Tryz.checked.mixed bD ?_;apply bm Tryz.func266 [];have aF:∀ n:Nat,n<32->IntKind.i64.wrap (-(n:Int))=-(n:Int) :=fun n aF=>wrap_i64 (by omega) (by omega)
 simp[aF i ax.2];refine aW (zn x _) rfl ?_;simp[aF j aj.2];refine aW (zn x _) rfl ?_;simp[aF k hk.2];refine aW (zn x _) rfl ?_;simp[zo x _ ax.1 ax.2,zo x _ aj.1 aj.2,zo x _ hk.1 hk.2];exact aK rfl rfl
end gZ

end Go.cf
