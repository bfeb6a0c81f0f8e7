/-
  The canonical machine: numbers without sign, as rows of bits.
-/
import Derived.Test.YtobphgccoalchaaGreatDoorDe
import Derived.OpenShut
import Derived.Shelf.SlSortCmp.InsertionK
import Derived.Sort.LotA
import Derived.Lib.AppendZerosOnto
set_option linter.unusedVariables false
set_option linter.unusedSimpArgs false
set_option linter.unnecessarySimpa false
namespace Go.ct
open Go
def u {w:Nat} (a:BitVec w) :Int:=(a.toNat:Int)
@[simp] theorem mK {w:Nat} (a:BitVec w) :BitVec.ofInt w (u a)=a:=by
 unfold u;rw[aDI,aFH,BitVec.setWidth_eq]
@[simp] theorem rK {w:Nat} (a b:BitVec w) :(u a=u b)<->a=b:=⟨fun h=>aCV (by unfold u at h; exact Int.ofNat_inj.1 h),fun h=>by rw[h]⟩
@[simp] theorem aCs {w:Nat} (a b:BitVec w) :(u a<u b)<->a<b:=by unfold u; rw[Int.ofNat_lt]; rfl
@[simp] theorem aCr {w:Nat} (a b:BitVec w) :(u a<=u b)<->a<=b:=by unfold u; rw[Int.ofNat_le]; rfl
@[simp] theorem aCt {w:Nat} (a:BitVec w) :0<=u a:=aEQ _
@[simp] theorem aCu {w:Nat} (a:BitVec w) :(u a).toNat=a.toNat:=aDf _
theorem aCq {w:Nat} (a:BitVec w) :u a<2 ^ w:=by
 have:=a.isLt;unfold u
 exact_mod_cast this
@[simp] theorem aBD {w:Nat} (a b:Int) :BitVec.ofInt w (a - b)=BitVec.ofInt w a - BitVec.ofInt w b:=by
 rw[Int.sub_eq_add_neg,BitVec.ofInt_add,BitVec.ofInt_neg,BitVec.sub_eq_add_neg]
attribute [simp] BitVec.ofInt_add BitVec.ofInt_mul
theorem qA {w:Nat} (v:Nat) (a:BitVec w) :BitVec.ofInt v (u a)=a.setWidth v:=by
 unfold u;rw[aDI,aFH]
section
abbrev bQ (a:BitVec 8) :ad:=.int .u8 (u a)
@[simp] theorem Ed (n:Int) :IntKind.u8.wrap n=u (BitVec.ofInt 8 n) :=by
 have a2:(2 ^ IntKind.u8.bits:Int)=256:=by decide
 have dG:IntKind.u8.signed=false:=rfl;simp only[IntKind.wrap,a2,dG,aDJ,aDV,if_false,u,aER];have:(2 ^ 8:Nat)=256:=by decide
 rw[this];omega
@[simp] theorem aCB (a:Int) :rL .xor (.int .u8 a)=some (.int .u8 (u (~~~(BitVec.ofInt 8 a)))) :=by
 show some (ad.int .u8 (IntKind.u8.wrap (u (BitVec.ofInt 8 (255:Int) ^^^ BitVec.ofInt 8 a))))=_;rw[Ed,mK];have:BitVec.ofInt 8 (255:Int)=BitVec.allOnes 8:=by decide
 rw[this,aFb]
theorem aeQ (a:BitVec 8) (k' : IntKind) (n:Nat) :cP .shl .u8 (u a) k' (n:Int)=some (.int .u8 (u (a <<< n))) :=by
 have aG:¬((n:Int)<0) :=by omega
 show (if (n:Int)<0 then none else some (ad.int .u8 (IntKind.u8.wrap ((a.toNat:Int)*2 ^ min (n:Int).toNat 8))))=_;rw[if_neg aG];congr 2;rw[Ed,aDf];unfold u;congr 1;have:((a.toNat:Int)*2 ^ min n 8)=((a.toNat*2 ^ min n 8:Nat) :Int) :=by rw[Int.natCast_mul,aEv]; rfl
 rw[this,aDI,aC7,aD6,aD3];rcases aDK n 8 with h | h
 ·rw[aDE (aD4 h)]
 ·rw[aEq h];have h1:a.toNat*2 ^ 8 % 2 ^ 8=0:=aFl _ _;obtain⟨m,rfl⟩:=aEM h;rw[h1,aEI,aFg,aFh]
theorem aeT (a:BitVec 8) (k' : IntKind) (n:Nat) :cP .shr .u8 (u a) k' (n:Int)=some (.int .u8 (u (a >>> n))) :=by
 have aG:¬((n:Int)<0) :=by omega
 show (if (n:Int)<0 then none else some (ad.int .u8 ((a.toNat:Int).fdiv (2 ^ min (n:Int).toNat 8))))=_;rw[if_neg aG];congr 2;rw[aDf];unfold u;have:((2:Int) ^ min n 8)=((2 ^ min n 8:Nat) :Int) :=by rw[aEv]; rfl
 rw[this,aEo _ (aEQ _),<-aFm,aDo,aC8];congr 1;rcases aDK n 8 with h | h
 ·rw[aDE (aD4 h)]
 ·rw[aEq h,aD7 a.isLt,aD7 (aEs a.isLt (aE1 (by omega) h))]
@[simp] theorem aw9 (a:BitVec 8) (k' : IntKind) (n:Int) (h:0<=n) :cP .shl .u8 (u a) k' n=some (.int .u8 (u (a <<< n.toNat))) :=by
 obtain⟨m,rfl⟩:=aDv h;exact aeQ a k' m
@[simp] theorem axd (a:BitVec 8) (k' : IntKind) (n:Int) (h:0<=n) :cP .shr .u8 (u a) k' n=some (.int .u8 (u (a >>> n.toNat))) :=by
 obtain⟨m,rfl⟩:=aDv h;exact aeT a k' m
@[simp] theorem aw5 (a b:BitVec 8) (h:b≠0#8) :cP .rem .u8 (u a) .u8 (u b)=some (.int .u8 (u (a % b))) :=by
 have ai:(b.toNat:Int)≠0:=fun e=>h (aCV (by simpa using e))
 show (if IntKind.u8=IntKind.u8/\(b.toNat:Int)≠0 then some (ad.int .u8 ((a.toNat:Int).tmod b.toNat)) else none)=_;rw[if_pos ⟨rfl,ai⟩];unfold u;rw[aDU];rfl
@[simp] theorem axl (a b:Int) :cP .xor .u8 a .u8 b=some (.int .u8 (u (BitVec.ofInt 8 a ^^^ BitVec.ofInt 8 b))) :=by
 show some (ad.int .u8 (IntKind.u8.wrap (u (BitVec.ofInt 8 a ^^^ BitVec.ofInt 8 b))))=_;rw[Ed,mK]
@[simp] theorem aw3 (a b:Int) :cP .or .u8 a .u8 b=some (.int .u8 (u (BitVec.ofInt 8 a ||| BitVec.ofInt 8 b))) :=by
 show some (ad.int .u8 (IntKind.u8.wrap (u (BitVec.ofInt 8 a ||| BitVec.ofInt 8 b))))=_;rw[Ed,mK]
@[simp] theorem awM (a b:Int) :cP .and .u8 a .u8 b=some (.int .u8 (u (BitVec.ofInt 8 a &&& BitVec.ofInt 8 b))) :=by
 show some (ad.int .u8 (IntKind.u8.wrap (u (BitVec.ofInt 8 a &&& BitVec.ofInt 8 b))))=_;rw[Ed,mK]
end

section
abbrev EK (a:BitVec 16) :ad:=.int .u16 (u a)
@[simp] theorem Ec (n:Int) :IntKind.u16.wrap n=u (BitVec.ofInt 16 n) :=by
 have a2:(2 ^ IntKind.u16.bits:Int)=65536:=by decide
 have dG:IntKind.u16.signed=false:=rfl;simp only[IntKind.wrap,a2,dG,aDJ,aDV,if_false,u,aER];have:(2 ^ 16:Nat)=65536:=by decide
 rw[this];omega
@[simp] theorem aCy (a:Int) :rL .xor (.int .u16 a)=some (.int .u16 (u (~~~(BitVec.ofInt 16 a)))) :=by
 show some (ad.int .u16 (IntKind.u16.wrap (u (BitVec.ofInt 16 (65535:Int) ^^^ BitVec.ofInt 16 a))))=_;rw[Ec,mK];have:BitVec.ofInt 16 (65535:Int)=BitVec.allOnes 16:=by decide
 rw[this,aFb]
theorem aeO (a:BitVec 16) (k' : IntKind) (n:Nat) :cP .shl .u16 (u a) k' (n:Int)=some (.int .u16 (u (a <<< n))) :=by
 have aG:¬((n:Int)<0) :=by omega
 show (if (n:Int)<0 then none else some (ad.int .u16 (IntKind.u16.wrap ((a.toNat:Int)*2 ^ min (n:Int).toNat 16))))=_;rw[if_neg aG];congr 2;rw[Ec,aDf];unfold u;congr 1;have:((a.toNat:Int)*2 ^ min n 16)=((a.toNat*2 ^ min n 16:Nat) :Int) :=by rw[Int.natCast_mul,aEv]; rfl
 rw[this,aDI,aC7,aD6,aD3];rcases aDK n 16 with h | h
 ·rw[aDE (aD4 h)]
 ·rw[aEq h];have h1:a.toNat*2 ^ 16 % 2 ^ 16=0:=aFl _ _;obtain⟨m,rfl⟩:=aEM h;rw[h1,aEI,aFg,aFh]
theorem aeR (a:BitVec 16) (k' : IntKind) (n:Nat) :cP .shr .u16 (u a) k' (n:Int)=some (.int .u16 (u (a >>> n))) :=by
 have aG:¬((n:Int)<0) :=by omega
 show (if (n:Int)<0 then none else some (ad.int .u16 ((a.toNat:Int).fdiv (2 ^ min (n:Int).toNat 16))))=_;rw[if_neg aG];congr 2;rw[aDf];unfold u;have:((2:Int) ^ min n 16)=((2 ^ min n 16:Nat) :Int) :=by rw[aEv]; rfl
 rw[this,aEo _ (aEQ _),<-aFm,aDo,aC8];congr 1;rcases aDK n 16 with h | h
 ·rw[aDE (aD4 h)]
 ·rw[aEq h,aD7 a.isLt,aD7 (aEs a.isLt (aE1 (by omega) h))]
@[simp] theorem aw6 (a:BitVec 16) (k' : IntKind) (n:Int) (h:0<=n) :cP .shl .u16 (u a) k' n=some (.int .u16 (u (a <<< n.toNat))) :=by
 obtain⟨m,rfl⟩:=aDv h;exact aeO a k' m
@[simp] theorem axa (a:BitVec 16) (k' : IntKind) (n:Int) (h:0<=n) :cP .shr .u16 (u a) k' n=some (.int .u16 (u (a >>> n.toNat))) :=by
 obtain⟨m,rfl⟩:=aDv h;exact aeR a k' m
@[simp] theorem aw4 (a b:BitVec 16) (h:b≠0#16) :cP .rem .u16 (u a) .u16 (u b)=some (.int .u16 (u (a % b))) :=by
 have ai:(b.toNat:Int)≠0:=fun e=>h (aCV (by simpa using e))
 show (if IntKind.u16=IntKind.u16/\(b.toNat:Int)≠0 then some (ad.int .u16 ((a.toNat:Int).tmod b.toNat)) else none)=_;rw[if_pos ⟨rfl,ai⟩];unfold u;rw[aDU];rfl
@[simp] theorem axi (a b:Int) :cP .xor .u16 a .u16 b=some (.int .u16 (u (BitVec.ofInt 16 a ^^^ BitVec.ofInt 16 b))) :=by
 show some (ad.int .u16 (IntKind.u16.wrap (u (BitVec.ofInt 16 a ^^^ BitVec.ofInt 16 b))))=_;rw[Ec,mK]
@[simp] theorem aw0 (a b:Int) :cP .or .u16 a .u16 b=some (.int .u16 (u (BitVec.ofInt 16 a ||| BitVec.ofInt 16 b))) :=by
 show some (ad.int .u16 (IntKind.u16.wrap (u (BitVec.ofInt 16 a ||| BitVec.ofInt 16 b))))=_;rw[Ec,mK]
@[simp] theorem awK (a b:Int) :cP .and .u16 a .u16 b=some (.int .u16 (u (BitVec.ofInt 16 a &&& BitVec.ofInt 16 b))) :=by
 show some (ad.int .u16 (IntKind.u16.wrap (u (BitVec.ofInt 16 a &&& BitVec.ofInt 16 b))))=_;rw[Ec,mK]
end

section
abbrev bR (a:BitVec 32) :ad:=.int .u32 (u a)
@[simp] theorem Bb (n:Int) :IntKind.u32.wrap n=u (BitVec.ofInt 32 n) :=by
 have a2:(2 ^ IntKind.u32.bits:Int)=4294967296:=by decide
 have dG:IntKind.u32.signed=false:=rfl;simp only[IntKind.wrap,a2,dG,aDJ,aDV,if_false,u,aER];have:(2 ^ 32:Nat)=4294967296:=by decide
 rw[this];omega
@[simp] theorem aCz (a:Int) :rL .xor (.int .u32 a)=some (.int .u32 (u (~~~(BitVec.ofInt 32 a)))) :=by
 show some (ad.int .u32 (IntKind.u32.wrap (u (BitVec.ofInt 32 (4294967295:Int) ^^^ BitVec.ofInt 32 a))))=_;rw[Bb,mK];have:BitVec.ofInt 32 (4294967295:Int)=BitVec.allOnes 32:=by decide
 rw[this,aFb]
theorem aeP (a:BitVec 32) (k' : IntKind) (n:Nat) :cP .shl .u32 (u a) k' (n:Int)=some (.int .u32 (u (a <<< n))) :=by
 have aG:¬((n:Int)<0) :=by omega
 show (if (n:Int)<0 then none else some (ad.int .u32 (IntKind.u32.wrap ((a.toNat:Int)*2 ^ min (n:Int).toNat 32))))=_;rw[if_neg aG];congr 2;rw[Bb,aDf];unfold u;congr 1;have:((a.toNat:Int)*2 ^ min n 32)=((a.toNat*2 ^ min n 32:Nat) :Int) :=by rw[Int.natCast_mul,aEv]; rfl
 rw[this,aDI,aC7,aD6,aD3];rcases aDK n 32 with h | h
 ·rw[aDE (aD4 h)]
 ·rw[aEq h];have h1:a.toNat*2 ^ 32 % 2 ^ 32=0:=aFl _ _;obtain⟨m,rfl⟩:=aEM h;rw[h1,aEI,aFg,aFh]
theorem aeS (a:BitVec 32) (k' : IntKind) (n:Nat) :cP .shr .u32 (u a) k' (n:Int)=some (.int .u32 (u (a >>> n))) :=by
 have aG:¬((n:Int)<0) :=by omega
 show (if (n:Int)<0 then none else some (ad.int .u32 ((a.toNat:Int).fdiv (2 ^ min (n:Int).toNat 32))))=_;rw[if_neg aG];congr 2;rw[aDf];unfold u;have:((2:Int) ^ min n 32)=((2 ^ min n 32:Nat) :Int) :=by rw[aEv]; rfl
 rw[this,aEo _ (aEQ _),<-aFm,aDo,aC8];congr 1;rcases aDK n 32 with h | h
 ·rw[aDE (aD4 h)]
 ·rw[aEq h,aD7 a.isLt,aD7 (aEs a.isLt (aE1 (by omega) h))]
@[simp] theorem aw7 (a:BitVec 32) (k' : IntKind) (n:Int) (h:0<=n) :cP .shl .u32 (u a) k' n=some (.int .u32 (u (a <<< n.toNat))) :=by
 obtain⟨m,rfl⟩:=aDv h;exact aeP a k' m
@[simp] theorem axb (a:BitVec 32) (k' : IntKind) (n:Int) (h:0<=n) :cP .shr .u32 (u a) k' n=some (.int .u32 (u (a >>> n.toNat))) :=by
 obtain⟨m,rfl⟩:=aDv h;exact aeS a k' m
@[simp] theorem aeM (a b:BitVec 32) (h:b≠0#32) :cP .rem .u32 (u a) .u32 (u b)=some (.int .u32 (u (a % b))) :=by
 have ai:(b.toNat:Int)≠0:=fun e=>h (aCV (by simpa using e))
 show (if IntKind.u32=IntKind.u32/\(b.toNat:Int)≠0 then some (ad.int .u32 ((a.toNat:Int).tmod b.toNat)) else none)=_;rw[if_pos ⟨rfl,ai⟩];unfold u;rw[aDU];rfl
@[simp] theorem axj (a b:Int) :cP .xor .u32 a .u32 b=some (.int .u32 (u (BitVec.ofInt 32 a ^^^ BitVec.ofInt 32 b))) :=by
 show some (ad.int .u32 (IntKind.u32.wrap (u (BitVec.ofInt 32 a ^^^ BitVec.ofInt 32 b))))=_;rw[Bb,mK]
@[simp] theorem aw1 (a b:Int) :cP .or .u32 a .u32 b=some (.int .u32 (u (BitVec.ofInt 32 a ||| BitVec.ofInt 32 b))) :=by
 show some (ad.int .u32 (IntKind.u32.wrap (u (BitVec.ofInt 32 a ||| BitVec.ofInt 32 b))))=_;rw[Bb,mK]
@[simp] theorem awL (a b:Int) :cP .and .u32 a .u32 b=some (.int .u32 (u (BitVec.ofInt 32 a &&& BitVec.ofInt 32 b))) :=by
 show some (ad.int .u32 (IntKind.u32.wrap (u (BitVec.ofInt 32 a &&& BitVec.ofInt 32 b))))=_;rw[Bb,mK]
end

section
abbrev dm (a:BitVec 64) :ad:=.int .u64 (u a)
@[simp] theorem uO (n:Int) :IntKind.u64.wrap n=u (BitVec.ofInt 64 n) :=by
 have a2:(2 ^ IntKind.u64.bits:Int)=18446744073709551616:=by decide
 have dG:IntKind.u64.signed=false:=rfl;simp only[IntKind.wrap,a2,dG,aDJ,aDV,if_false,u,aER];have:(2 ^ 64:Nat)=18446744073709551616:=by decide
 rw[this];omega
@[simp] theorem aCA (a:Int) :rL .xor (.int .u64 a)=some (.int .u64 (u (~~~(BitVec.ofInt 64 a)))) :=by
 show some (ad.int .u64 (IntKind.u64.wrap (u (BitVec.ofInt 64 (18446744073709551615:Int) ^^^ BitVec.ofInt 64 a))))=_;rw[uO,mK];have:BitVec.ofInt 64 (18446744073709551615:Int)=BitVec.allOnes 64:=by decide
 rw[this,aFb]
theorem Ox (a:BitVec 64) (k' : IntKind) (n:Nat) :cP .shl .u64 (u a) k' (n:Int)=some (.int .u64 (u (a <<< n))) :=by
 have aG:¬((n:Int)<0) :=by omega
 show (if (n:Int)<0 then none else some (ad.int .u64 (IntKind.u64.wrap ((a.toNat:Int)*2 ^ min (n:Int).toNat 64))))=_;rw[if_neg aG];congr 2;rw[uO,aDf];unfold u;congr 1;have:((a.toNat:Int)*2 ^ min n 64)=((a.toNat*2 ^ min n 64:Nat) :Int) :=by rw[Int.natCast_mul,aEv]; rfl
 rw[this,aDI,aC7,aD6,aD3];rcases aDK n 64 with h | h
 ·rw[aDE (aD4 h)]
 ·rw[aEq h];have h1:a.toNat*2 ^ 64 % 2 ^ 64=0:=aFl _ _;obtain⟨m,rfl⟩:=aEM h;rw[h1,aEI,aFg,aFh]
theorem tt (a:BitVec 64) (k' : IntKind) (n:Nat) :cP .shr .u64 (u a) k' (n:Int)=some (.int .u64 (u (a >>> n))) :=by
 have aG:¬((n:Int)<0) :=by omega
 show (if (n:Int)<0 then none else some (ad.int .u64 ((a.toNat:Int).fdiv (2 ^ min (n:Int).toNat 64))))=_;rw[if_neg aG];congr 2;rw[aDf];unfold u;have:((2:Int) ^ min n 64)=((2 ^ min n 64:Nat) :Int) :=by rw[aEv]; rfl
 rw[this,aEo _ (aEQ _),<-aFm,aDo,aC8];congr 1;rcases aDK n 64 with h | h
 ·rw[aDE (aD4 h)]
 ·rw[aEq h,aD7 a.isLt,aD7 (aEs a.isLt (aE1 (by omega) h))]
@[simp] theorem aw8 (a:BitVec 64) (k' : IntKind) (n:Int) (h:0<=n) :cP .shl .u64 (u a) k' n=some (.int .u64 (u (a <<< n.toNat))) :=by
 obtain⟨m,rfl⟩:=aDv h;exact Ox a k' m
@[simp] theorem axc (a:BitVec 64) (k' : IntKind) (n:Int) (h:0<=n) :cP .shr .u64 (u a) k' n=some (.int .u64 (u (a >>> n.toNat))) :=by
 obtain⟨m,rfl⟩:=aDv h;exact tt a k' m
@[simp] theorem y0 (a b:BitVec 64) (h:b≠0#64) :cP .rem .u64 (u a) .u64 (u b)=some (.int .u64 (u (a % b))) :=by
 have ai:(b.toNat:Int)≠0:=fun e=>h (aCV (by simpa using e))
 show (if IntKind.u64=IntKind.u64/\(b.toNat:Int)≠0 then some (ad.int .u64 ((a.toNat:Int).tmod b.toNat)) else none)=_;rw[if_pos ⟨rfl,ai⟩];unfold u;rw[aDU];rfl
@[simp] theorem axk (a b:Int) :cP .xor .u64 a .u64 b=some (.int .u64 (u (BitVec.ofInt 64 a ^^^ BitVec.ofInt 64 b))) :=by
 show some (ad.int .u64 (IntKind.u64.wrap (u (BitVec.ofInt 64 a ^^^ BitVec.ofInt 64 b))))=_;rw[uO,mK]
@[simp] theorem aw2 (a b:Int) :cP .or .u64 a .u64 b=some (.int .u64 (u (BitVec.ofInt 64 a ||| BitVec.ofInt 64 b))) :=by
 show some (ad.int .u64 (IntKind.u64.wrap (u (BitVec.ofInt 64 a ||| BitVec.ofInt 64 b))))=_;rw[uO,mK]
@[simp] theorem Og (a b:Int) :cP .and .u64 a .u64 b=some (.int .u64 (u (BitVec.ofInt 64 a &&& BitVec.ofInt 64 b))) :=by
 show some (ad.int .u64 (IntKind.u64.wrap (u (BitVec.ofInt 64 a &&& BitVec.ofInt 64 b))))=_;rw[uO,mK]
end
@[simp] theorem axT (a:BitVec 8) :BitVec.ofInt 16 (u a)=a.setWidth 16:=qA 16 a
@[simp] theorem axU (a:BitVec 8) :BitVec.ofInt 32 (u a)=a.setWidth 32:=qA 32 a
@[simp] theorem axV (a:BitVec 8) :BitVec.ofInt 64 (u a)=a.setWidth 64:=qA 64 a
@[simp] theorem axM (a:BitVec 16) :BitVec.ofInt 8 (u a)=a.setWidth 8:=qA 8 a
@[simp] theorem axK (a:BitVec 16) :BitVec.ofInt 32 (u a)=a.setWidth 32:=qA 32 a
@[simp] theorem axL (a:BitVec 16) :BitVec.ofInt 64 (u a)=a.setWidth 64:=qA 64 a
@[simp] theorem axP (a:BitVec 32) :BitVec.ofInt 8 (u a)=a.setWidth 8:=qA 8 a
@[simp] theorem axN (a:BitVec 32) :BitVec.ofInt 16 (u a)=a.setWidth 16:=qA 16 a
@[simp] theorem axO (a:BitVec 32) :BitVec.ofInt 64 (u a)=a.setWidth 64:=qA 64 a
@[simp] theorem axS (a:BitVec 64) :BitVec.ofInt 8 (u a)=a.setWidth 8:=qA 8 a
@[simp] theorem axQ (a:BitVec 64) :BitVec.ofInt 16 (u a)=a.setWidth 16:=qA 16 a
@[simp] theorem axR (a:BitVec 64) :BitVec.ofInt 32 (u a)=a.setWidth 32:=qA 32 a
@[simp] theorem aCv {w:Nat}:u (0#w)=0:=by simp[u]
theorem Il (k:Nat) (c:Int) (ak:0<c) (hk:k<9223372036854775808) :cP .quo .i64 (k:Int) .i64 c=some (.int .i64 ((k / c.toNat:Nat) :Int)) :=by
 obtain⟨m,rfl⟩:=aDv (Int.le_of_lt ak);have hm:(m:Int)≠0:=by omega
 show (if IntKind.i64=IntKind.i64/\(m:Int)≠0 then some (ad.int .i64 (IntKind.i64.wrap ((k:Int).tdiv m))) else none)=_;rw[if_pos ⟨rfl,hm⟩,aDf];have:((k:Int).tdiv m)=((k / m:Nat) :Int) :=rfl;have ag:=aF1 k m;rw[this];generalize k / m=q at ag;rw[wrap_i64 (by omega) (by omega)]
theorem Ew (k:Nat) (c:Int) (ak:0<c) :cP .rem .i64 (k:Int) .i64 c=some (.int .i64 ((k % c.toNat:Nat) :Int)) :=by
 obtain⟨m,rfl⟩:=aDv (Int.le_of_lt ak);have hm:(m:Int)≠0:=by omega
 show (if IntKind.i64=IntKind.i64/\(m:Int)≠0 then some (ad.int .i64 ((k:Int).tmod m)) else none)=_;rw[if_pos ⟨rfl,hm⟩,aDf];rfl
theorem ab4 (k:IntKind) (w n:Nat) :rep n (.int k 0)=(List.replicate n (0#w)).map fun x=>.int k (u x) :=by
 simp[rep]
theorem oG {α:Type} (f:α->ad) (l:List α) (i:Nat) (x:α) (h:i<l.length) :bO (l.map f) i [f x]=(l.set i x).map f:=by
 unfold bO;rw[aD0,if_pos h];simp
theorem n2 {cs vs:List ad} (h:vs.length=cs.length) :bO cs 0 vs=vs:=by
 unfold bO;rw[aDT,aD1,aDq,h,aFS,aDl]
theorem aJ {l:aw} {c c' : ad} (h:c=c') (ak:c'.closed=true) :Rd l c c':=by subst h; exact .same _ ak
theorem zn {α:Type} {z:Nat}:∀ (es:List (List α)),(∀ e∈es,e.length=z)->∀ (i j:Nat) (e:List α) (c:α),es[i]? = some e->e[j]? = some c->es.flatten[i*z+j]? = some c:=by
 intro es az
 induction es with
 | nil=>intro i j e c au; simp at au
 | cons x es aY=>
  intro i j e c au am;have al:x.length=z:=az x (by simp);cases i with
  | zero=>
   simp only[aDd,Option.some.injEq] at au;subst au;rw[aDM,aEV,aDT,aCK (aCJ.1 am).1];exact am
  | succ i=>
   simp only[aDz] at au;rw[aDM,aCT (by rw[al,aDj]; omega),al,show (i+1)*z+j - z=i*z+j by rw[aDj]; omega];exact aY (fun e au=>az e (by simp[au])) i j e c au am
inductive tj (l:aw) :List ad->List ad->Prop
 | nil:tj l [] []
 | cons {c c' cs cs'}:gH (cj l) c c'->tj l cs cs'->tj l (c::cs) (c'::cs')
theorem tj.len {l:aw}:∀ {a b:List ad},tj l a b->b.length=a.length
 | _,_,.nil=>rfl
 | _,_,.cons _ h=>by simp[h.len]
theorem tj.get {l:aw}:∀ {a b:List ad},tj l a b->∀ (j:Nat) (c c' : ad),a[j]? = some c->b[j]? = some c'->gH (cj l) c c'
 | _,_,.nil,j,c,c',h,_=>by simp at h
 | _,_,.cons h1 ag,j,c,c',h,h'=>by
  cases j with
  | zero=>simp at h h'; subst h h'; exact h1
  | succ j=>exact ag.get j c c' (by simpa using h) (by simpa using h')
theorem i3 {P:Program} {G:Nat->ad} {f:FuncId} {args kv:List ad} {r:ad} {l:aw} {K:ad->aw->Prop} (aF:bE P G f kv r) (aC:tj l args kv) (aL:r.flat=true) (h:K r l) :dS P G f args l (c:=⟨K⟩) :=
 ⟨r,l,.Ys aF aC.len aC.get aL,aCL _,h⟩
theorem Yu {P:Program} {G:Nat->ad} {f:FuncId} {args kv:List ad} {r:ad} {l:aw} {K:ad->aw->Prop} (aF:pG P G f kv r) (aC:tj l args kv) (h:K r l) :dS P G f args l (c:=⟨K⟩) :=
 ⟨r,l,.Yt aF aC.len aC.get,aCL _,h⟩
inductive lo (l:aw) :ad->ad->Prop
 | flat (c:ad) (h:c.flat=true) :lo l c c
 | aM (cs cs' : List ad) (ar:cs'.length=cs.length) (h:∀ (j:Nat) (c c' : ad),cs[j]? = some c->cs'[j]? = some c'->lo l c c') :lo l (.aM cs) (.aM cs')
 | b5 (cs cs' : List ad) (ar:cs'.length=cs.length) (h:∀ (j:Nat) (c c' : ad),cs[j]? = some c->cs'[j]? = some c'->lo l c c') :lo l (.b5 cs) (.b5 cs')
 | av (z b off len cap sz:Nat) (cs:List ad) (es:List (List ad)) (ai:l[b]? = some (.cells sz cs)) (ar:es.length=len) (az:∀ e∈es,e.length=z)
   (ea:off+len*z<=cs.length)
   (h:∀ (i j:Nat) (e:List ad) (c c' : ad),es[i]? = some e->e[j]? = some c'->cs[off+(i*z+j)]? = some c->lo l c c') :lo l (.av z b off len cap sz) (.cr z es)
 | uI (z b off cap sz:Nat) :lo l (.av z b off 0 cap sz) (.cr z [])
 | go (z:Nat) :lo l (.cr z []) (.cr z [])
theorem aty {w:World} {R:Nat->Prop} {B:Nat} {l:aw} {μ:dd} (rel:cp R B w (cj l) μ) :∀ {c c' : ad},lo l c c'->∀ {v:Value},aZ w R (cj l) μ c v->gc w (fun k=>B<=k) c' v:=by
 intro c c' aC
 induction aC with
 | flat c h=>intro v ay; exact SN ay h
 | aM cs cs' ar h aY=>
  intro v ay;cases ay with
  | aM _ vs gW h1 ay=>
   refine .aM cs' vs (by omega) h1 (fun j c' v am fX=>?_);have aP:j<cs.length:=by rw[<-ar]; exact (aCJ.1 am).1
   exact aY j cs[j] c' (aCM aP) am (ay j cs[j] v (aCM aP) fX)
 | b5 cs cs' ar h aY=>
  intro v ay;cases ay with
  | b5 _ vs gW ay=>
   refine .b5 cs' vs (by omega) (fun j c' v am fX=>?_);have aP:j<cs.length:=by rw[<-ar]; exact (aCJ.1 am).1
   exact aY j cs[j] c' (aCM aP) am (ay j cs[j] v (aCM aP) fX)
 | uI z b off cap sz=>
  intro v ay;cases ay with
  | av _ _ _ _ _ _ cap' cs m ai hm ar ax ak=>exact .go z _ cap'
  | g4 _ _ _ _ _ _ cap' a ar ak aA=>exact .go z _ cap'
  | iy _ _ _ _ a cs m ai hm=>exact .go z a 0
 | go z=>
  intro v ay;generalize au:([] :List (List ad))=es at ay;generalize zH:ad.cr z es=wY at ay;cases ay<;>cases zH
  ·subst au; exact .go z _ _
  ·exact .go z _ _
 | av z b off len cap sz cs es ai ar az ea h aY=>
  intro v ay;have q5:(cj l).f b=.cells sz cs:=ln.2 ai;cases ay with
  | iy _ _ _ _ a iF m gK lG=>
   obtain rfl:=aDk.1 ar;exact .go z a 0
  | g4 _ _ _ _ _ _ cap' a ar ak aA=>
   exfalso;rcases aA with aA | ⟨n,iF,aA,aP⟩
   ·rw[q5] at aA; cases aA
   ·rw[q5] at aA; cases aA; omega
  | av _ _ _ _ _ _ cap' iF m gK hm gk ax ak=>
   rw[q5] at gK; cases gK;have hblk:=rel.blk b m hm;rw[q5] at hblk;obtain⟨bT,dH,arr,t,gL,hw,aD,aL,m5⟩:=hblk;have dv:len<=cap':=by rcases ak with ⟨_,h⟩ | ⟨_,h,_⟩<;>omega
   have oj:B<=m.r:=rel.base b m (by rw[q5]; rfl) hm;subst ar;have q6:∀ i j,i<es.length->j<z->∃ c v,cs[off+(i*z+j)]? = some c/\arr[m.s+(off+(i*z+j))]? = some v/\v.oneCell'=true/\aZ w R (cj l) μ c v:=by
    intro i j aB am;have aP:off+(i*z+j)<cs.length:=by
     have:i*z+z<=es.length*z:=by rw[<-aDj]; exact aCN _ aB
     omega
    obtain⟨v,h1,ag,aq⟩:=m5 _ _ (aCM aP);exact⟨_,v,aCM aP,h1,ag,aq⟩
   refine .cr z es m.r (m.s+off) cap' (fun i j=>(arr[m.s+(off+(i*z+j))]?).getD undef) dv az (fun i j aB am=>?_) (fun i e au j c' am=>?_)
   ·obtain⟨c,v,h1,ag,aq,aH⟩:=q6 i j aB am;refine⟨?_,?_,oj,fun ⟨b,m,h1,ag,aq⟩=>by cases ag⟩
    ·simp only[World.cell?,hw,ag,aDA,aEA];rw[show m.s+off+(i*z+j)=m.s+(off+(i*z+j)) by omega,ag]; rfl
    ·rw[ag]; exact aq
   ·have aB:i<es.length:=(aCJ.1 au).1;have p8:j<z:=by rw[<-az e (aCP au)]; exact (aCJ.1 am).1
    obtain⟨c,v,h1,ag,aq,aH⟩:=q6 i j aB p8;simp only[ag,aDA];exact aY i j e c c' au am h1 aH
theorem DD {P:Program} {G:Nat->ad} (nN:P.follows .mixedOrders=true) (lY:∀ g,(G g).closed=true) {f:FuncId} {args:List ad} {r:ad} (h:dS P G f args [] (c:=⟨fun wk l=>lo l wk r⟩)) :pG P G f args r:=by
 obtain⟨wk,l',h1,ag,aq⟩:=h;intro w A vs aA ar ay;refine (M4 (A:=A) nN lY h1 aA ar ay).mono ?_;rintro e w' ⟨v,μ',rfl,ai,rel,aC⟩;exact⟨v,rfl,ai,aty rel aq aC⟩
theorem abV {l:aw} {z b n cap sz:Nat} {es:List (List ad)} {rest:List ad} (ai:l[b]? = some (.cells sz (es.flatten++rest))) (aI:es.length=n) (az:∀ e∈es,e.length=z) (ak:∀ e∈es,mn e=true) :lo l (.av z b 0 n cap sz) (.cr z es) :=by
 have e1:=mo (z:=z) (es:=es) (fun e au=>az e au);refine .av z b 0 n cap sz _ es ai aI az (by rw[aCS,e1,aI]; omega) (fun i j e c c' au am dM=>?_);have aB:i<es.length:=(aCJ.1 au).1;have p8:j<z:=by rw[<-az e (aCP au)]; exact (aCJ.1 am).1
 have aP:i*z+j<es.flatten.length:=by
  rw[e1];have:i*z+z<=es.length*z:=by rw[<-aDj]; exact aCN _ aB
  omega
 have h1:es.flatten[i*z+j]? = some c':=zn es az i j e c' au am;rw[aDT,aCK aP,h1] at dM;cases dM;exact .flat _ (EV (ak e (aCP au)) j _ am)
theorem abS {l:aw} {c:ad} (h:c.closed=true) :gH (cj l) c c:=.same c h
@[simp] theorem azy (n z:Nat) (cs:List ad) (k:IntKind) (i:Int) :Gp n z (.aM cs) (.int k i)=if 0<=i/\i<n then cs[i.toNat*z]? else none:=id rfl
@[simp] theorem azz (n z:Nat) (cs:List ad) (k:IntKind) (i:Int) :Gq n z (.aM cs) (.int k i)=if 0<=i/\i<n then uz z cs (i.toNat*z) else none:=id rfl
@[simp] theorem Az (s:List UInt8) (k:IntKind) (i:Int) :Ay (.str s) (.int k i)=if 0<=i then (s[i.toNat]?).map jR else none:=id rfl
theorem auh {α:Type} {l:List α} {i:Nat} {x:α} (h:l[i]? = some x) :l.set i x=l:=by
 obtain⟨aB,rfl⟩:=aCJ.1 h;exact List.set_getElem_self aB
theorem lr {α:Type} (f:α->ad) (aL:∀ x,(f x).closed=true) :∀ l:List α,a7 (l.map f)=true
 | []=>rfl
 | x::l=>by simp only[aDc,a7,aL,lr f aL l,aEn]
theorem RW {α:Type} (f:α->ad) (aL:∀ x,(f x).closed=true) (l:List α) :(ad.aM (l.map f)).closed=true:=by simp only[ad.closed]; exact lr f aL l
theorem zl {α:Type} (f:α->ad) (aL:∀ x,(f x).flat=true) :∀ l:List α,mn (l.map f)=true
 | []=>rfl
 | x::l=>by simp only[aDc,mn,aL,zl f aL l,aEn]
theorem SM {α:Type} (f:α->ad) (aL:∀ x,(f x).flat=true) (l:List α) :(ad.aM (l.map f)).flat=true:=by simp only[ad.flat]; exact zl f aL l
@[simp] theorem axp (z:Nat) :vb (.av z) .aK=some (.int .i64 0) :=id rfl
@[simp] theorem axo (n z:Nat) (x:ad) :vb (.arr n z) x=some (.int .i64 n) :=id rfl
theorem aCg (z:Nat) (dn aB dg:Option ad) :g5 (.av z) .aK dn aB dg=(hb 0 0 dn aB dg).map fun _=>.aK:=rfl
@[simp] theorem aCh (z:Nat) (k:IntKind) :g5 (.av z) .aK none (some (.int k 0)) none=some .aK:=id rfl
theorem yD (z b off len cap sz:Nat) (dn aB dg:Option ad) :g5 (.av z) (.av z b off len cap sz) dn aB dg=(hb len cap dn aB dg).map fun (l,aR,m)=>if m=l then .av z b (off+l*z) 0 0 sz else .av z b (off+l*z) (aR - l) (m - l) sz:=by
 simp[g5]
theorem Du {α:Type} {l:List α} {a:α} (h:l[0]? = some a) :∃ r,l=a::r:=by
 cases l with
 | nil=>simp at h
 | cons x l=>simp at h; subst h; exact⟨l,rfl⟩
theorem avi {α:Type} {l:List α} {b:α} (h:l[1]? = some b) :∃ a r,l=a::b::r:=by
 cases l with
 | nil=>simp at h
 | cons x l=>obtain⟨r,rfl⟩:=Du (l:=l) (by simpa using h); exact⟨x,r,rfl⟩
theorem AW (zero:List ad) (n:Nat) :(ey zero n).length=n*zero.length:=by
 induction n with
 | zero=>simp[ey]
 | succ n aY=>simp[ey,aY,aDj,aFQ]
theorem Hh (zero:List ad) (n:Nat) :ey zero n=(List.replicate n zero).flatten:=by
 induction n with
 | zero=>rfl
 | succ n aY=>rw[ey,aY,aDW,aDM]
inductive bW (z:Nat) (l:aw) :ad->Nat->List (List ad)->Prop
 | nil (j:Nat) :bW z l .aK j []
 | av (j n cap sz:Nat) (cs:List ad) (es:List (List ad)) (ai:l[j]? = some (.cells sz cs)) (ar:cs.length=sz) (aI:es.length=n) (az:∀ e∈es,e.length=z) (ak:n<=cap) (dv:cap*z<=sz)
   (bT:cs.take (n*z)=es.flatten) :bW z l (.av z j 0 n cap sz) j es
def cX:ad->Bool | .aK=>true | _=>false
theorem jB {v:ad}:cX v=true<->v=.aK:=by cases v<;>simp[cX]
theorem ui {α:Type} {v bl:ad} {xs:List α} (h:bl=.aK<->v=.aK/\xs=[]) :cX bl=(cX v&&xs.isEmpty) :=by
 rw[Bool.eq_iff_iff,jB,h,aCQ,jB,aFU]
def s6 (z:Nat) (v:ad) (es:List (List ad)) :ad:=match cX v with | true=>.aK | false=>.cr z es
section
variable {z:Nat} {l l' : aw} {v:ad} {j:Nat} {es:List (List ad)}
theorem bW.lt (h:bW z l v j es) :v=.aK\/j<l.length:=by
 cases h with
 | nil j=>exact .inl rfl
 | av j n cap sz cs es ai=>exact .inr (fW ai)
theorem bW.row (h:bW z l v j es) :∀ e∈es,e.length=z:=by
 cases h with
 | nil j=>intro e au; cases au
 | av j n cap sz cs es ai ar aI az=>exact az
theorem bW.cells (h:bW z l v j es) :v.cells=some [v] :=by cases h<;>rfl
theorem bW.len (h:bW z l v j es) :c1 (.av z) v=some (.int .i64 es.length) :=by
 cases h with
 | nil j=>rfl
 | av j n cap sz cs es ai ar aI=>subst aI; rfl
theorem bW.frame (h:bW z l v j es) (am:j<l.length->l'[j]? = l[j]?) :bW z l' v j es:=by
 cases h with
 | nil j=>exact .nil j
 | av j n cap sz cs es ai ar aI az ak dv bT=>exact .av j n cap sz cs es (by rw[am (fW ai)]; exact ai) ar aI az ak dv bT
theorem bW.nF (h:bW z l v j es) (am:v=.aK\/l'[j]? = l[j]?) :bW z l' v j es:=by
 cases h with
 | nil j=>exact .nil j
 | av j n cap sz cs es ai ar aI az ak dv bT=>
  rcases am with am | am
  ·cases am
  ·exact .av j n cap sz cs es (by rw[am]; exact ai) ar aI az ak dv bT
theorem bW.more (h:bW z l v j es) (x:aw) :bW z (l++x) v j es:=h.frame fun am=>aCK am
theorem bW.contents (h:bW z l v j es) :dL l z v=some (es.flatten,es.length) :=by
 cases h with
 | nil j=>rfl
 | av j n cap sz cs es ai ar aI az ak dv bT=>subst aI; simp only[dL,ai,and_self,if_true,aDH,bT]
theorem bW.Hf (h:bW z l v j es) (aL:∀ e∈es,mn e=true) :lo l v (s6 z v es) :=by
 cases h with
 | nil j=>exact .flat _ rfl
 | av j n cap sz cs es ai ar aI az ak dv bT=>
  show lo l _ (.cr z es);refine abV (rest:=cs.drop (n*z)) ?_ aI az aL;rw[ai,<-bT,aDt]
theorem bW.s3 (h:bW z l v j es) (aL:∀ e∈es,a7 e=true) :gH (cj l) v (s6 z v es) :=by
 cases h with
 | nil j=>exact .same _ rfl
 | av j n cap sz cs es ai ar aI az ak dv bT=>
  show gH (cj l) _ (.cr z es);have qe:n*z<=cs.length:=by rw[ar]; exact aD2 (aCN _ ak) dv
  refine .av z j 0 n cap sz cs es (ln.2 ai) aI az (by omega) (fun i k e c c' au hk dM=>?_);have aB:i<es.length:=(aCJ.1 au).1;have CA:k<z:=by rw[<-az e (aCP au)]; exact (aCJ.1 hk).1
  have aP:i*z+k<n*z:=by
   have:i*z+z<=es.length*z:=by rw[<-aDj]; exact aCN _ aB
   rw[aI] at this; omega
  have h1:es.flatten[i*z+k]? = some c':=zn es az i k e c' au hk;rw[<-bT,aCW aP] at h1;rw[aDT,h1] at dM;cases dM;exact .same _ (By (aL e (aCP au)) k _ hk)
theorem DL {l:aw} {z b n cap sz:Nat} {es:List (List ad)} {rest:List ad} (ai:l[b]? = some (.cells sz (es.flatten++rest))) (aI:es.length=n) (az:∀ e∈es,e.length=z) (ak:∀ e∈es,a7 e=true) :gH (cj l) (.av z b 0 n cap sz) (.cr z es) :=by
 have e1:=mo (z:=z) (es:=es) (fun e au=>az e au);refine .av z b 0 n cap sz _ es (ln.2 ai) aI az (by rw[aCS,e1,aI]; omega) (fun i j e c c' au am dM=>?_);have aB:i<es.length:=(aCJ.1 au).1;have p8:j<z:=by rw[<-az e (aCP au)]; exact (aCJ.1 am).1
 have aP:i*z+j<es.flatten.length:=by
  rw[e1];have:i*z+z<=es.length*z:=by rw[<-aDj]; exact aCN _ aB
  omega
 have h1:es.flatten[i*z+j]? = some c':=zn es az i j e c' au am;rw[aDT,aCK aP,h1] at dM;cases dM;exact .same _ (By (ak e (aCP au)) j _ am)
theorem N3 (h:bW z l v j es) {by_ m:Nat} {xs:List (List ad)} (hm:xs.length=m) (l9:∀ e∈xs,e.length=z) (aG:z≠0) (eQ:by_≠0) (eb:(es.length+m)*by_<=c4) :
  ∃ bl cx l',iW l z by_ v xs.flatten m=some (bl,l')/\bW z l' bl cx (es++xs)/\l.length<=l'.length/\(∀ b,b<l.length->b≠j->l'[b]? = l[b]?)/\(cx=j\/l.length<=cx)/\(bl=.aK<->v=.aK/\xs=[]) :=by
 by_cases kg:m=0
 ·have al:xs=[] :=aDk.1 (by omega);subst al;refine⟨v,j,l,?_,by simpa using h,aCL _,fun _ _ _=>rfl,.inl rfl,by simp⟩;unfold iW;rw[if_pos kg];cases h<;>rfl
 have bm:xs.flatten.length=m*z:=by rw[mo l9,hm]
 have j1:∀ e∈es++xs,e.length=z:=fun e au=>by
  rcases aDr.1 au with h1 | h1
  ·exact h.row e h1
  ·exact l9 e h1
 have b2:xs≠[] :=fun al=>kg (by rw[<-hm,al]; rfl)
 cases h with
 | nil j=>
  refine⟨.av z l.length 0 m m (m*z),l.length,l++[.cells (m*z) xs.flatten],?_,?_,by simp,fun b ai _=>aCK ai,.inr (aCL _),by simp[b2]⟩
  ·unfold iW;rw[if_neg kg,if_neg (by omega)];simp only;rw[if_pos (by simpa using eb)]
  ·refine .av _ _ _ _ xs.flatten _ (by simp) bm (by simpa using hm) j1 (aCL _) (aCL _) ?_;rw[aCI (by omega)]; rfl
 | av j n cap sz cs es ai ar aI az ak dv bT=>
  subst aI;have qe:es.length*z<=cap*z:=aCN _ ak;have p9:(es++xs).length=es.length+m:=by simp[hm]
  have e1:(es++xs).flatten=es.flatten++xs.flatten:=by simp
  have o6:es.flatten.length=es.length*z:=mo az;have jb:iW l z by_ (.av z j 0 es.length cap sz) xs.flatten m =
    if es.length+m<=cap then some (.av z j 0 (es.length+m) cap sz,l.set j (.cells sz (bO cs (es.length*z) xs.flatten)))
    else if cap*z<sz then some (.av z l.length 0 (es.length+m) (es.length+m) ((es.length+m)*z),l++[.cells ((es.length+m)*z) (es.flatten++xs.flatten)])
    else some (.av z j 0 (es.length+m) (es.length+m) ((es.length+m)*z),l.set j (.cells ((es.length+m)*z) (es.flatten++xs.flatten))) :=by
   unfold iW;rw[if_neg kg,if_neg (by omega)];simp only[ai];rw[if_pos ⟨trivial,trivial,eb⟩];simp only[aDT,aDH,bT,if_true]
  rw[jb];have eW:=fW ai;split
  ·rename_i h1;have Ki:(es.length+m)*z<=cap*z:=aCN _ h1;rw[aDg] at Ki;refine⟨_,j,_,rfl,?_,by simp,fun b ca he=>by rw[aCU (fun e=>he e.symm)],.inl rfl,by simp⟩;refine .av j _ cap sz (bO cs (es.length*z) xs.flatten) _ (by rw[aC3 eW]) ?_ p9 j1 h1 dv ?_
   ·rw[rJ (by omega)]; omega
   ·rw[e1];unfold bO;rw[bT,aDb (by simp[o6,bm,aDg]),aCI (by simp[o6,bm,aDg])]
  ·split
   ·refine⟨_,l.length,_,rfl,?_,by simp,fun b ca _=>aCK ca,.inr (aCL _),by simp⟩;refine .av _ _ _ _ (es.flatten++xs.flatten) _ (by simp) (by simp[o6,bm,aDg]) p9 j1 (aCL _) (aCL _) ?_;rw[e1,aCI (by simp[o6,bm,aDg])]
   ·refine⟨_,j,_,rfl,?_,by simp,fun b ca he=>by rw[aCU (fun e=>he e.symm)],.inl rfl,by simp⟩;refine .av j _ _ _ (es.flatten++xs.flatten) _ (by rw[aC3 eW]) (by simp[o6,bm,aDg]) p9 j1 (aCL _) (aCL _) ?_;rw[e1,aCI (by simp[o6,bm,aDg])]
theorem oR (h:bW z l v j es) {by_:Nat} {x:ad} {xs:List (List ad)} (al:dL l z x=some (xs.flatten,xs.length)) (l9:∀ e∈xs,e.length=z) (aG:z≠0) (eQ:by_≠0) (eb:(es.length+xs.length)*by_<=c4) :
  ∃ bl cx l',g8 l z by_ v x=some (bl,l')/\bW z l' bl cx (es++xs)/\l.length<=l'.length/\(∀ b,b<l.length->b≠j->l'[b]? = l[b]?)/\(cx=j\/l.length<=cx)/\(bl=.aK<->v=.aK/\xs=[]) :=by
 unfold g8;rw[al];exact N3 h rfl l9 aG eQ eb
theorem aep (h:bW z l v j es) {by_ n:Nat} {k:IntKind} {zero:List ad} (jA:zero.length=z) (aG:z≠0) (eQ:by_≠0) (aI:n<9223372036854775808) (eb:(es.length+n)*by_<=c4) :
  ∃ bl cx l',r0 l z by_ zero v (.int k (n:Int))=some (bl,l')/\bW z l' bl cx (es++List.replicate n zero)/\l.length<=l'.length/\(∀ b,b<l.length->b≠j->l'[b]? = l[b]?)/\(cx=j\/l.length<=cx)/\(bl=.aK<->v=.aK/\n=0) :=by
 have:=N3 h (xs:=List.replicate n zero) (m:=n) (by simp) (fun e au=>by rw[(List.mem_replicate.1 au).2,jA]) aG eQ eb;obtain⟨bl,cx,l',h1,ag⟩:=this;refine⟨bl,cx,l',?_,by simpa [List.replicate_eq_nil_iff] using ag⟩;unfold r0;simp only[aDf];rw[if_pos ⟨by omega,by omega,by have:=aD2 (aCN by_ (Nat.le_add_left n es.length)) eb; exact this⟩,Hh];exact h1
theorem aet {l:aw} {z by_ n:Nat} {v bl:ad} {xs:List ad} {pre rest:aw} {l' : aw} (ay:v=.aK\/∃ j n cap sz,v=.av z j 0 n cap sz/\pre.length<=j) (h:iW (pre++rest) z by_ v xs n=some (bl,l')) :
  ∃ me,l'=pre++me:=by
 unfold iW at h;by_cases aI:n=0
 ·rw[if_pos aI] at h;rcases ay with rfl | ⟨j,m,cap,sz,rfl,am⟩<;>(cases h; exact⟨_,rfl⟩)
 rw[if_neg aI] at h;by_cases aG:z=0\/by_=0
 ·rw[if_pos aG] at h; cases h
 rw[if_neg aG] at h;rcases ay with rfl | ⟨j,m,cap,sz,rfl,am⟩
 ·simp only at h;split at h
  ·cases h; exact⟨_,by rw[aDa]⟩
  ·cases h
 ·simp only at h;split at h
  ·split at h
   ·split at h
    ·cases h; exact⟨_,by rw[aDu _ _ am]⟩
    ·split at h
     ·cases h; exact⟨_,by rw[aDa]⟩
     ·split at h
      ·cases h; exact⟨_,by rw[aDu _ _ am]⟩
      ·rename_i aR; exact absurd trivial aR
   ·cases h
  ·cases h
theorem r1 {z by_:Nat} {v:ad} {j:Nat} {es:List (List ad)} {pre rest:aw} (h:bW z (pre++rest) v j es) (am:v=.aK\/pre.length<=j) {x:ad} {xs:List (List ad)} (al:dL (pre++rest) z x=some (xs.flatten,xs.length)) (l9:∀ e∈xs,e.length=z) (aG:z≠0) (eQ:by_≠0)
  (eb:(es.length+xs.length)*by_<=c4) :
  ∃ bl cx me,g8 (pre++rest) z by_ v x=some (bl,pre++me)/\bW z (pre++me) bl cx (es++xs)/\(bl=.aK\/pre.length<=cx)/\cX bl=(cX v&&xs.isEmpty) :=by
 have aL:v=.aK\/∃ j n cap sz,v=.av z j 0 n cap sz/\pre.length<=j:=by
  cases h with
  | nil j=>exact .inl rfl
  | av j n cap sz cs es=>exact .inr ⟨j,n,cap,sz,rfl,am.resolve_left (by simp)⟩
 obtain⟨bl,cx,l',h1,ag,aq,aH,bd,bM⟩:=oR h al l9 aG eQ eb;have du:=h1;unfold g8 at du;rw[al] at du;obtain⟨me,rfl⟩:=aet (l:=[]) aL du;refine⟨bl,cx,me,h1,ag,?_,ui bM⟩;rcases bd with h | h
 ·rcases am with ay | am
  ·by_cases Am:xs=[]
   ·exact .inl (bM.2 ⟨ay,Am⟩)
   ·right;subst ay;have Ak:xs.length≠0:=fun e=>Am (aDk.1 e)
    simp only at du;unfold iW at du;rw[if_neg Ak] at du;split at du
    ·cases du
    ·simp only at du;split at du
     ·obtain⟨rfl,_⟩:=Prod.mk.inj (Option.some.inj du);generalize es++xs=E at ag;cases ag;simp
     ·cases du
  ·right; omega
 ·right;rw[aCS] at h; omega
theorem bW.view (h:bW z l v j es) (ay:cX v=false) :∃ n cap sz cs,v=.av z j 0 n cap sz/\l[j]? = some (.cells sz cs)/\cs.length=sz/\es.length=n/\n*z<=sz/\(∀ i e,es[i]? = some e->∀ m,m<z->cs[i*z+m]? = e[m]?)/\cs.take (n*z)=es.flatten:=by
 cases h with
 | nil j=>simp[cX] at ay
 | av j n cap sz cs es ai ar aI az ak dv bT=>
  refine⟨n,cap,sz,cs,rfl,ai,ar,aI,aD2 (aCN _ ak) dv,fun i e au m hm=>?_,bT⟩;have aB:i<es.length:=(aCJ.1 au).1;have aP:i*z+m<n*z:=by
   have:i*z+z<=es.length*z:=by rw[<-aDj]; exact aCN _ aB
   rw[aI] at this; omega
  have h1:=EW az au hm;rw[<-h1,<-bT,aCW aP]
theorem bW.DN {α:Type} {enc:α->List ad} {xs:List α} (h:bW z l v j (xs.map enc)) (aL:∀ x,mn (enc x)=true) (s:dX α) (ap:cX v=s.isNone) (al:s.l=xs) :lo l v (c0 z enc s) :=by
 have h1:=h.Hf (fun e au=>by obtain⟨x,_,rfl⟩:=aC9.1 au; exact aL x);subst al;unfold s6 at h1;rw[ap] at h1;cases s with
 | none=>exact h1
 | some s=>exact h1
theorem bW.mO {α:Type} {enc:α->List ad} {xs:List α} (h:bW z l v j (xs.map enc)) (aL:∀ x,a7 (enc x)=true) (s:dX α) (ap:cX v=s.isNone) (al:s.l=xs) :gH (cj l) v (c0 z enc s) :=by
 have h1:=h.s3 (fun e au=>by obtain⟨x,_,rfl⟩:=aC9.1 au; exact aL x);subst al;unfold s6 at h1;rw[ap] at h1;cases s with
 | none=>exact h1
 | some s=>exact h1
end
inductive eJ (z:Nat) (l:aw) :ad->Nat->List (List ad)->Prop
 | nil (j:Nat) :eJ z l .aK j []
 | av (j off n cap sz:Nat) (cs:List ad) (es:List (List ad)) (ai:l[j]? = some (.cells sz cs)) (ar:cs.length=sz) (aI:es.length=n) (az:∀ e∈es,e.length=z) (ak:n<=cap) (dv:off+cap*z<=sz)
   (bT:(cs.drop off).take (n*z)=es.flatten) :eJ z l (.av z j off n cap sz) j es
section
variable {z:Nat} {l l' : aw} {v:ad} {j:Nat} {es:List (List ad)}
theorem bW.q (h:bW z l v j es) :eJ z l v j es:=by
 cases h with
 | nil j=>exact .nil j
 | av j n cap sz cs es ai ar aI az ak dv bT=>exact .av j 0 n cap sz cs es ai ar aI az ak (by omega) (by simpa using bT)
theorem eJ.row (h:eJ z l v j es) :∀ e∈es,e.length=z:=by
 cases h with
 | nil j=>intro e au; cases au
 | av j off n cap sz cs es ai ar aI az=>exact az
theorem eJ.lt (h:eJ z l v j es) :v=.aK\/j<l.length:=by
 cases h with
 | nil j=>exact .inl rfl
 | av j off n cap sz cs es ai=>exact .inr (fW ai)
theorem eJ.cells (h:eJ z l v j es) :v.cells=some [v] :=by cases h<;>rfl
theorem eJ.len (h:eJ z l v j es) :c1 (.av z) v=some (.int .i64 es.length) :=by
 cases h with
 | nil j=>rfl
 | av j off n cap sz cs es ai ar aI=>subst aI; rfl
theorem eJ.nF (h:eJ z l v j es) (am:v=.aK\/l'[j]? = l[j]?) :eJ z l' v j es:=by
 cases h with
 | nil j=>exact .nil j
 | av j off n cap sz cs es ai ar aI az ak dv bT=>
  rcases am with am | am
  ·cases am
  ·exact .av j off n cap sz cs es (by rw[am]; exact ai) ar aI az ak dv bT
theorem eJ.more (h:eJ z l v j es) (x:aw) :eJ z (l++x) v j es:=h.nF (by
 rcases h.lt with h | h
 ·exact .inl h
 ·exact .inr (aCK h))
theorem eJ.rz (h:eJ z l .aK j es) :es=[] :=by
 generalize ay:ad.aK=w at h;cases h with
 | nil j=>rfl
 | av=>cases ay
theorem ael (h:eJ z l v j es) {by_ m:Nat} {xs:List (List ad)} (hm:xs.length=m) (l9:∀ e∈xs,e.length=z) (aG:z≠0) (eQ:by_≠0) (eb:(es.length+m)*by_<=c4) :
  ∃ bl cx l',iW l z by_ v xs.flatten m=some (bl,l')/\eJ z l' bl cx (es++xs)/\l.length<=l'.length/\(∀ b,b<l.length->(v=.aK\/b≠j)->l'[b]? = l[b]?)/\(bl=.aK\/(v≠.aK/\cx=j)\/l.length<=cx)/\(bl=.aK<->v=.aK/\xs=[]) :=by
 by_cases kg:m=0
 ·have al:xs=[] :=aDk.1 (by omega);subst al;refine⟨v,j,l,?_,by simpa using h,aCL _,fun _ _ _=>rfl,?_,by simp⟩
  ·unfold iW;rw[if_pos kg];cases h<;>rfl
  ·by_cases ay:v=.aK
   ·exact .inl ay
   ·exact .inr (.inl ⟨ay,rfl⟩)
 have bm:xs.flatten.length=m*z:=by rw[mo l9,hm]
 have j1:∀ e∈es++xs,e.length=z:=fun e au=>by
  rcases aDr.1 au with h1 | h1
  ·exact h.row e h1
  ·exact l9 e h1
 have b2:xs≠[] :=fun al=>kg (by rw[<-hm,al]; rfl)
 cases h with
 | nil j=>
  refine⟨.av z l.length 0 m m (m*z),l.length,l++[.cells (m*z) xs.flatten],?_,?_,by simp,fun b ai _=>aCK ai,.inr (.inr (aCL _)),by simp[b2]⟩
  ·unfold iW;rw[if_neg kg,if_neg (by omega)];simp only;rw[if_pos (by simpa using eb)]
  ·refine .av _ _ _ _ _ xs.flatten _ (by simp) bm (by simpa using hm) j1 (aCL _) (by omega) ?_;rw[aDH,aCI (by omega)]; rfl
 | av j off n cap sz cs es ai ar aI az ak dv bT=>
  subst aI;have qe:es.length*z<=cap*z:=aCN _ ak;have p9:(es++xs).length=es.length+m:=by simp[hm]
  have e1:(es++xs).flatten=es.flatten++xs.flatten:=by simp
  have o6:es.flatten.length=es.length*z:=mo az;have jb:iW l z by_ (.av z j off es.length cap sz) xs.flatten m =
    if es.length+m<=cap then some (.av z j off (es.length+m) cap sz,l.set j (.cells sz (bO cs (off+es.length*z) xs.flatten)))
    else if off+cap*z<sz then some (.av z l.length 0 (es.length+m) (es.length+m) ((es.length+m)*z),l++[.cells ((es.length+m)*z) (es.flatten++xs.flatten)])
    else if off=0 then some (.av z j 0 (es.length+m) (es.length+m) ((es.length+m)*z),l.set j (.cells ((es.length+m)*z) (cs.take (es.length*z)++xs.flatten)))
    else some (.av z l.length 0 (es.length+m) (es.length+m) ((es.length+m)*z),l.set j .dead++[.cells ((es.length+m)*z) (es.flatten++xs.flatten)]) :=by
   unfold iW;rw[if_neg kg,if_neg (by omega)];simp only[ai];rw[if_pos ⟨trivial,trivial,eb⟩];simp only[bT]
  rw[jb];have eW:=fW ai;have pf:∀ fz:aw,fz.length=l.length->eJ z (fz++[.cells ((es.length+m)*z) (es.flatten++xs.flatten)]) (.av z l.length 0 (es.length+m) (es.length+m) ((es.length+m)*z)) l.length (es++xs) :=fun fz vD=>by
   refine .av _ _ _ _ _ (es.flatten++xs.flatten) _ (by rw[<-vD]; simp) (by simp[o6,bm,aDg]) p9 j1 (aCL _) (by omega) ?_;rw[e1,aDH,aCI (by simp[o6,bm,aDg])]
  split
  ·rename_i h1;have Ki:(es.length+m)*z<=cap*z:=aCN _ h1;rw[aDg] at Ki;refine⟨_,j,_,rfl,?_,by simp,fun b ca he=>by rw[aCU (fun e=>(he.resolve_left (by simp)) e.symm)],.inr (.inl ⟨by simp,rfl⟩),by simp⟩;refine .av j off _ cap sz (bO cs (off+es.length*z) xs.flatten) _ (by rw[aC3 eW]) ?_ p9 j1 h1 dv ?_
   ·rw[rJ (by omega)]; omega
   ·rw[e1];unfold bO;have aQ:cs.take (off+es.length*z)=cs.take off++es.flatten:=by rw[List.take_add,bT]
    have KJ:(cs.take off).length=off:=by rw[aCX]; omega
    rw[aQ,aDa,aDa,aDp (by omega),aDC (by omega),aDq,<-aDa,aDb (by simp[o6,bm,aDg]),aCI (by simp[o6,bm,aDg])]
  ·split
   ·exact⟨_,l.length,_,rfl,pf l rfl,by simp,fun b ca _=>aCK ca,.inr (.inr (aCL _)),by simp⟩
   ·split
    ·rename_i zX;subst zX;rw[aDH] at bT;refine⟨_,j,_,rfl,?_,by simp,fun b ca he=>by rw[aCU (fun e=>(he.resolve_left (by simp)) e.symm)],.inr (.inl ⟨by simp,rfl⟩),by simp⟩;refine .av j 0 _ _ _ (cs.take (es.length*z)++xs.flatten) _ (by rw[aC3 eW]) (by rw[bT]; simp[o6,bm,aDg]) p9 j1 (aCL _) (by omega) ?_;rw[bT,e1,aDH,aCI (by simp[o6,bm,aDg])]
    ·refine⟨_,l.length,_,rfl,pf _ (by simp),by simp,fun b ca he=>?_,.inr (.inr (aCL _)),by simp⟩;rw[aCK (by simpa using ca),aCU (fun e=>(he.resolve_left (by simp)) e.symm)]
theorem aps {pre rest l' : aw} (h:∀ b,b<pre.length->l'[b]? = (pre++rest)[b]?) (ar:pre.length<=l'.length) :∃ me,l'=pre++me:=by
 refine⟨l'.drop pre.length,?_⟩;apply aDF;intro i;by_cases aB:i<pre.length
 ·rw[h i aB,aCK aB,aCK aB]
 ·rw[aCT (by omega),aDh]; congr 1; omega
theorem N4 {by_:Nat} {pre rest:aw} (h:eJ z (pre++rest) v j es) (am:v=.aK\/pre.length<=j) {x:ad} {xs:List (List ad)} (al:dL (pre++rest) z x=some (xs.flatten,xs.length)) (l9:∀ e∈xs,e.length=z) (aG:z≠0) (eQ:by_≠0)
  (eb:(es.length+xs.length)*by_<=c4) :
  ∃ bl cx me,g8 (pre++rest) z by_ v x=some (bl,pre++me)/\eJ z (pre++me) bl cx (es++xs)/\(bl=.aK\/pre.length<=cx)/\cX bl=(cX v&&xs.isEmpty) ∧
   (∀ b,b<(pre++rest).length->(v=.aK\/b≠j)->(pre++me)[b]? = (pre++rest)[b]?)/\(bl=.aK\/(v≠.aK/\cx=j)\/(pre++rest).length<=cx) :=by
 obtain⟨bl,cx,l',h1,ag,aq,aH,bd,bM⟩:=ael h (by_:=by_) rfl l9 aG eQ eb;have pc:pre.length<=(pre++rest).length:=by simp
 obtain⟨me,rfl⟩:=aps (pre:=pre) (rest:=rest) (l':=l') (fun b ai=>aH b (by omega) (by
  rcases am with h | h
  ·exact .inl h
  ·exact .inr (by omega))) (by omega)
 refine⟨bl,cx,me,?_,ag,?_,ui bM,aH,bd⟩
 ·unfold g8; rw[al]; exact h1
 ·rcases bd with h | ⟨h,h'⟩ | h
  ·exact .inl h
  ·rcases am with am | am
   ·exact absurd am h
   ·exact .inr (by omega)
  ·exact .inr (by omega)
theorem eJ.from (h:eJ z l v j es) (ay:cX v=false) {k:IntKind} {i:Nat} (aB:i<=es.length) :∃ bl,g5 (.av z) v (some (.int k (i:Int))) none none=some bl/\eJ z l bl j (es.drop i)/\cX bl=false:=by
 cases h with
 | nil j=>simp[cX] at ay
 | av j off n cap sz cs es ai ar aI az ak dv bT=>
  subst aI;have tV:i*z+(cap - i)*z=cap*z:=by rw[<-aDg]; congr 1; omega
  have UI:i*z+(es.length - i)*z=es.length*z:=by rw[<-aDg]; congr 1; omega
  have eD:es.length*z<=cap*z:=aCN _ ak;have KT:∀ e∈es.drop i,e.length=z:=fun e au=>az e (aEf au)
  have e1:(es.drop i).flatten=(es.flatten).drop (i*z) :=by
   have h1:es.flatten=(es.take i).flatten++(es.drop i).flatten:=by rw[<-aDD,aDt]
   have ag:(es.take i).flatten.length=i*z:=by
    rw[mo (z:=z) (fun e au=>az e (aDs au)),aCX];congr 1; omega
   rw[h1,<-ag,aF5]
  rw[yD,Ov,if_pos ⟨by omega,by omega⟩];simp only[aDf,aCR,Option.some.injEq,exists_eq_left'];by_cases dY:cap=i
  ·rw[if_pos dY];have alj:es.drop i=[] :=aDC (by omega);refine⟨?_,rfl⟩;rw[alj];exact .av j _ 0 0 sz cs [] ai ar rfl (by simp) (aCL _) (by omega) (by simp)
  ·rw[if_neg dY];refine⟨.av j _ _ _ sz cs _ ai ar (by simp) KT (by omega) (by omega) ?_,rfl⟩;rw[e1,<-bT,aEW,aFe];congr 1; omega
theorem eJ.get (h:eJ z l v j es) {k:IntKind} {i:Nat} {e:List ad} (au:es[i]? = some e) :∃ p cs o,cC (.av z) v (.int k (i:Int))=some p/\e4 l p=some (cs,o)/\o+z<=cs.length/\(cs.drop o).take z=e:=by
 cases h with
 | nil j=>simp at au
 | av j off n cap sz cs es ai ar aI az ak dv bT=>
  subst aI;have aB:=(aCJ.1 au).1;have h1:i*z+z<=es.length*z:=by rw[<-aDj]; exact aCN _ aB
  have ag:es.length*z<=cap*z:=aCN _ ak;refine⟨.ptr j (off+i*z) sz,cs,off+i*z,?_,?_,by omega,?_⟩
  ·simp only[cC,aDf];rw[if_pos ⟨trivial,by omega,by omega⟩]
  ·simp only[e4,ai,if_true]
  ·have aln:=az e (aCP au);apply aDF;intro m;by_cases hm:m<z
   ·rw[aCW hm,aDh,<-EW az au hm,<-bT,aCW (by omega),aDh];congr 1; omega
   ·rw[aC0 (by simp; omega),aC0 (by omega)]
theorem eJ.Hf (h:eJ z l v j es) (aL:∀ e∈es,mn e=true) :lo l v (s6 z v es) :=by
 cases h with
 | nil j=>exact .flat _ rfl
 | av j off n cap sz cs es ai ar aI az ak dv bT=>
  show lo l _ (.cr z es);have qe:off+n*z<=cs.length:=by rw[ar]; have:=aCN z ak; omega
  refine .av z j off n cap sz cs es ai aI az (by omega) (fun i k e c c' au hk dM=>?_);have aB:i<es.length:=(aCJ.1 au).1;have CA:k<z:=by rw[<-az e (aCP au)]; exact (aCJ.1 hk).1
  have aP:i*z+k<n*z:=by
   have:i*z+z<=es.length*z:=by rw[<-aDj]; exact aCN _ aB
   rw[aI] at this; omega
  have h1:es.flatten[i*z+k]? = some c':=zn es az i k e c' au hk;rw[<-bT,aCW aP,aDh] at h1;rw[h1] at dM;cases dM;exact .flat _ (EV (aL e (aCP au)) k _ hk)
theorem eJ.s3 (h:eJ z l v j es) (aL:∀ e∈es,a7 e=true) :gH (cj l) v (s6 z v es) :=by
 cases h with
 | nil j=>exact .same _ rfl
 | av j off n cap sz cs es ai ar aI az ak dv bT=>
  show gH (cj l) _ (.cr z es);have qe:off+n*z<=cs.length:=by rw[ar]; have:=aCN z ak; omega
  refine .av z j off n cap sz cs es (ln.2 ai) aI az (by omega) (fun i k e c c' au hk dM=>?_);have aB:i<es.length:=(aCJ.1 au).1;have CA:k<z:=by rw[<-az e (aCP au)]; exact (aCJ.1 hk).1
  have aP:i*z+k<n*z:=by
   have:i*z+z<=es.length*z:=by rw[<-aDj]; exact aCN _ aB
   rw[aI] at this; omega
  have h1:es.flatten[i*z+k]? = some c':=zn es az i k e c' au hk;rw[<-bT,aCW aP,aDh] at h1;rw[h1] at dM;cases dM;exact .same _ (By (aL e (aCP au)) k _ hk)
theorem eJ.rd (h:eJ z l v j es) (aL:∀ e∈es,a7 e=true) :Rd l v (s6 z v es) :=by
 cases h with
 | nil j=>exact .same _ rfl
 | av j off n cap sz cs es ai ar aI az ak dv bT=>
  show Rd l _ (.cr z es);have qe:off+n*z<=cs.length:=by rw[ar]; have:=aCN z ak; omega
  refine .av z j off n cap sz cs es ai aI az (by omega) (fun i k e c c' au hk dM=>?_);have aB:i<es.length:=(aCJ.1 au).1;have CA:k<z:=by rw[<-az e (aCP au)]; exact (aCJ.1 hk).1
  have aP:i*z+k<n*z:=by
   have:i*z+z<=es.length*z:=by rw[<-aDj]; exact aCN _ aB
   rw[aI] at this; omega
  have h1:es.flatten[i*z+k]? = some c':=zn es az i k e c' au hk;rw[<-bT,aCW aP,aDh] at h1;rw[h1] at dM;cases dM;exact .same _ (By (aL e (aCP au)) k _ hk)
theorem eJ.mP {α:Type} {enc:α->List ad} {xs:List α} (h:eJ z l v j (xs.map enc)) (aL:∀ x,a7 (enc x)=true) (s:dX α) (ap:cX v=s.isNone) (al:s.l=xs) :Rd l v (c0 z enc s) :=by
 have h1:=h.rd (fun e au=>by obtain⟨x,_,rfl⟩:=aC9.1 au; exact aL x);subst al;unfold s6 at h1;rw[ap] at h1;cases s with
 | none=>exact h1
 | some s=>exact h1
theorem eJ.DN {α:Type} {enc:α->List ad} {xs:List α} (h:eJ z l v j (xs.map enc)) (aL:∀ x,mn (enc x)=true) (s:dX α) (ap:cX v=s.isNone) (al:s.l=xs) :lo l v (c0 z enc s) :=by
 have h1:=h.Hf (fun e au=>by obtain⟨x,_,rfl⟩:=aC9.1 au; exact aL x);subst al;unfold s6 at h1;rw[ap] at h1;cases s with
 | none=>exact h1
 | some s=>exact h1
theorem eJ.mO {α:Type} {enc:α->List ad} {xs:List α} (h:eJ z l v j (xs.map enc)) (aL:∀ x,a7 (enc x)=true) (s:dX α) (ap:cX v=s.isNone) (al:s.l=xs) :gH (cj l) v (c0 z enc s) :=by
 have h1:=h.s3 (fun e au=>by obtain⟨x,_,rfl⟩:=aC9.1 au; exact aL x);subst al;unfold s6 at h1;rw[ap] at h1;cases s with
 | none=>exact h1
 | some s=>exact h1
end
theorem aeE {P:Program} {t:TypeId} {xs bt:List ad} {r:Bool} (aA:P.eqGuardType P.depth t=false) (h:fk P 10000 t (.aM xs) (.aM bt)=some r) :gu P .eql t (.aM xs) (.aM bt)=some (.bool r) :=by
 simp only[gu,xc,aA,aFA,if_true,h]; rfl
theorem aeF {P:Program} {t:TypeId} {xs bt:List ad} {r:Bool} (aA:P.eqGuardType P.depth t=false) (h:fk P 10000 t (.aM xs) (.aM bt)=some r) :gu P .neq t (.aM xs) (.aM bt)=some (.bool (!r)) :=by
 simp only[gu,xc,aA,aFA,if_true,h]; rfl
end Go.ct

namespace Go.ct
open Go Go.ChangeShapes Go.RowKit
theorem apf (k:Nat) :¬ mh bh.empty (fun _=>none) k:=by
 rintro⟨b,m,ar,_,_⟩;simp[bh.empty,bh.f,live,dk.get] at ar
theorem ajZ {H:Type} {enc:TypeId × Value->H} {P:Program} {w:World} {base:Nat} {spare:Nat->Bool} {held:Bool} {fuel:Nat} {XH:String} {g t e n:Nat} {cs:Array Value} {x:DataW H × List MemPlace} (cK:List Int)
  (aA:P.globalNamed XH=some g) (ay:w.var? P XH=some cs) (aS:P.underlying t=some (.array n e)) (au:P.underlying e=some (.int .u32)) (ak:P.cellsOf e=1) (bX:DataW.trod enc P w base spare held fuel t cs.toList=some x)
  (al:x.1=.agg (cK.map fun k=>.lit (.int .u32 k))) :gc w (fun _=>True) (.cm (cK.map fun k=>.int .u32 k) 0) (.pointer (some ⟨g,0,none⟩)) :=by
 obtain⟨xs,m,rfl,Ak,bu,aI,alm⟩:=DataW.trod_array aS bX;rw[Ak] at al;simp only[DataW.agg.injEq] at al;have mA:cK.length=n:=by have:=congrArg List.length al; simp at this; omega
 have m5:∀ j k,cK[j]? = some k->w.cell? ⟨g,j,none⟩=some (.int .u32 k) :=by
  intro j k am;have m9:j<n:=by have:=(aCJ.1 am).1; omega
  have h1:=alm j m9;rw[ak,aEk] at h1;have Up:j<xs.length:=by omega
  rw[aCM Up] at h1;obtain⟨k',a2,b7,_⟩:=DataW.trod_int au h1;have aq:=congrArg (fun l=>l[j]?) al;simp only[aCO,aCM Up,am,aCR,Option.some.injEq] at aq;rw[b7] at aq;have pa:k'=k:=by simpa using aq
  subst pa;have aH:=World.var?_cell aA ay j;rw[aH];have bd:(cs.toList.drop j)[0]? = some (Value.int .u32 k') :=by
   have:((cs.toList.drop j).take 1)[0]? = some (Value.int .u32 k') :=by rw[a2]; rfl
   rw[aFc] at this;simpa using this
  rw[aDh] at bd;simpa using bd
 refine .cm _ 0 g 0 (fun j=>.int .u32 (cK.getD j 0)) (fun j am=>?_) (fun j c am=>?_)
 ·rw[aCZ] at am;refine⟨?_,rfl,trivial,apf g⟩;rw[aDT,m5 j cK[j] (aCM am),aC2,aCM am];rfl
 ·rw[aCO] at am;cases hk:cK[j]? with
  | none=>rw[hk] at am; cases am
  | some k=>
   rw[hk] at am;cases am;rw[aC2,hk];exact .int _ _
theorem acU {H:Type} {enc:TypeId × Value->H} {P:Program} {w:World} {base:Nat} {spare:Nat->Bool} {held:Bool}:∀ {ts:List TypeId} {vs:List Value} {iH:List (DataW H)} {di:List MemPlace},
  DataW.TrodAll enc P w base spare held ts vs iH di->iH.length=ts.length
 | [],vs,iH,di,h=>by obtain⟨rfl,rfl,rfl⟩:=trodAll_nil h; rfl
 | t::ts,vs,iH,di,h=>by
  obtain⟨v,avN,d,aiY,a,b,rfl,rfl,rfl,h1,ag⟩:=trodAll_cons h;simp[acU ag]
end Go.ct

namespace Go.ct
open Go
abbrev NI (P:Program) (G:Nat->ad) (e:FuncId × Bool × (List ad->Option ad)) :Prop:=∀ args r,e.2.2 args=some r->bE P G e.1 args r/\(e.2.1=true->pG P G e.1 args r)
def Ef (P:Program) (G:Nat->ad) :List (FuncId × Bool × (List ad->Option ad))->Prop
 | []=>True
 | e::r=>NI P G e/\Ef P G r
theorem Ef.mem {P:Program} {G:Nat->ad}:∀ {l:List (FuncId × Bool × (List ad->Option ad))},Ef P G l->∀ e∈l,NI P G e
 | e::l,h,x,al=>by
  rcases aDY.1 al with rfl | al
  ·exact h.1
  ·exact Ef.mem h.2 x al
def en (l:List Nat) :List ad:=l.map fun n=>.int .u8 (.ofNat n)
def hQ (l:List ad) :List (List ad) :=l.map fun c=>[c]
end Go.ct

namespace Go.ct
open Go Go.Proofs Go.Shelf Go.Sort Go.RowKit
def AQ:ad->Bool | .bool _=>true | .int _ _=>true | .str _=>true | _=>false
def valOf:ad->Value | .bool b=>.bool b | .int k n=>.int k n | .str s=>.string ⟨s.toArray⟩ | _=>.bool false
theorem avL {w:World} {R:Nat->Prop} {h:bh} {μ:dd} {c:ad} {v:Value} (aF:AQ c=true) (ay:aZ w R h μ c v) :v=valOf c:=by
 cases ay with
 | bool b=>rfl
 | int k n=>rfl
 | str bs=>obtain⟨⟨l⟩⟩:=bs; rfl
 | bad=>cases aF
 | _=>cases aF
theorem Yg {w:World} {R:Nat->Prop} {h:bh} {μ:dd} {c:ad} (aF:AQ c=true) :aZ w R h μ c (valOf c) :=by
 cases c with
 | bool b=>exact .bool b
 | int k n=>exact .int k n
 | str s=>exact (.str ⟨s.toArray⟩:aZ w R h μ (.str (ByteArray.mk s.toArray).data.toList) _)
 | _=>cases aF
theorem Nl (c:ad) :(valOf c).oneCell'=true:=by cases c<;>rfl
theorem aie {w W:World} {b o:Nat} (h:W.heap[b]? = w.heap[b]?) :W.cell? ⟨b,o,none⟩=w.cell? ⟨b,o,none⟩:=by simp[World.cell?,h]
theorem aif {w:World} {b o:Nat} {v:Value} (h:w.cell? ⟨b,o,none⟩=some v) :b<w.heap.size:=by
 apply Decidable.byContradiction;intro aI;simp only[World.cell?] at h;rw[aEl (by omega)] at h;cases h
theorem avK {w W:World} {A:Nat->Prop} (c9:∀ k,A k->k<w.heap.size->W.heap[k]? = w.heap[k]?) {c:ad} {v:Value} (ay:gc w A c v) :gc W A c v:=by
 unfold gc at ay ⊢;generalize aR:bh.empty=aG at ay ⊢;generalize hm:(fun _=>none:dd)=rR at ay ⊢;have r6:∀ {b o:Nat} {v:Value},Cell w A aG rR b o v->Cell W A aG rR b o v:=fun {b o v} k=>⟨(aie (c9 b k.ro (aif k.here))).trans k.here,k.one,k.ro,k.free⟩
 induction ay with
 | bool b=>exact .bool b
 | int k n=>exact .int k n
 | str bs=>exact .str bs
 | j5=>exact .j5
 | aK=>exact .aK
 | iq=>exact .iq
 | jD=>exact .jD
 | j4=>exact .j4
 | aM cs vs ar h1 ay aY=>exact .aM cs vs ar h1 aY
 | b5 cs vs ar ay aY=>exact .b5 cs vs ar aY
 | ptr b off sz cs m ai jf=>subst hm; cases jf
 | nn b off sz a aA=>exact .nn b off sz a aA
 | cm cs off blk o eT ak ay aY=>exact .cm cs off blk o eT (fun j am=>r6 (ak j am)) aY
 | av z b off len cap sz cap' cs m ai jf ar ax ak=>subst hm; cases jf
 | g4 z b off len cap sz cap' a ar ak aA=>exact .g4 z b off len cap sz cap' a ar ak aA
 | iy z b off sz a cs m ai jf=>subst hm; cases jf
 | cr z es blk off cap eT ar az ak ay aY=>exact .cr z es blk off cap eT ar az (fun i j aB am=>r6 (ak i j aB am)) aY
 | go z a cap=>exact .go z a cap
 | fn f first gQ fs cs aL ak h1 ag eX mG=>exact .fn f first gQ fs cs aL ak eX mG
 | mp b m ai jf=>subst hm; cases jf
 | it b m ai jf=>subst hm; cases jf
 | hD t c v ay aY=>exact .hD t c v aY
 | mT l=>exact .mT l
 | bad v=>exact .bad v
theorem aeK {W w' : World} (h:yT W w') :∃ q os,w'=grow (W.drewN q) os:=by
 refine⟨w'.drawn - W.drawn,w'.heap.extract W.heap.size,?_⟩;have bX:=h.drawn;have ap:=h.size;obtain⟨FG,au2,IC,LX,ao9⟩:=w';obtain⟨heap,tape,drawn,os,out⟩:=W;have a2:LX=os:=h.os;have b7:au2=tape:=h.tape;have dG:ao9=out:=h.output;subst a2 b7 dG;have j8:FG=heap++FG.extract heap.size:=by
  apply Array.ext_getElem?;intro k;rw[Array.getElem?_append];split
  ·rename_i hk;exact h.block k hk
  ·rename_i hk;rw[Array.getElem?_extract];have vK:heap.size<=FG.size:=ap;by_cases gV:k<FG.size
   ·rw[if_pos (by omega),show heap.size+(k - heap.size)=k by omega]
   ·rw[if_neg (by omega),aEl (by omega)]
 have IH:IC=drawn+(IC - drawn) :=by
  have:drawn<=IC:=bX;omega
 unfold grow World.drewN;simp only;rw[<-j8,<-IH]
def HX (P:Program) (f g:FuncId) (k:Nat) {X:Type} [Inhabited X] (c7:X->List Value) (iE:X->X->Int) :Prop:=
 ∀ (blk off cap:Nat) (d:Array X) (w:World),CmpLays P g #[] c7 k iE blk off d.size w->HoldsK c7 k w blk off d->blk<w.heap.size->d.size<4611686018427387904->
  Calls P f #[.slice (some ⟨blk,off,none⟩) d.size cap,.func (.func g) #[] #[]] w fun e w'=>e=.returned (.tuple #[])/\∃ tz n os,PermIn 0 d.size d tz/\SortedIn (ltOf iE) 0 d.size tz/\w'=sortWorldK c7 k w blk off n tz os
def sorted {X:Type} (iE:X->X->Int) (xs:List X) :List X:=xs.mergeSort fun x y=>!ltOf iE y x
theorem acy {X:Type} (iE:X->X->Int) (xs:List X) :(sorted iE xs).length=xs.length:=List.length_mergeSort _
section
variable {P:Program} {G:Nat->ad} {X:Type} {enc:X->List ad} {k:Nat}
theorem DQ (hk:∀ x,(enc x).length=k) (xs:List X) {j:Nat} (am:j<xs.length*k) :∃ x c,xs[j / k]? = some x/\(enc x)[j % k]? = some c/\((xs.map enc).flatten)[j]? = some c:=by
 have xQ:0<k:=Nat.pos_of_ne_zero fun h=>by subst h; simp at am
 have h1:j / k<xs.length:=Nat.div_lt_of_lt_mul (by rw[aFV]; exact am);have ag:j % k<k:=aES _ xQ;refine⟨xs[j / k],(enc xs[j / k])[j % k]'(by rw[hk]; exact ag),aCM h1,aCM _,?_⟩;have aq:(xs.map enc)[j / k]? = some (enc xs[j / k]) :=by rw[aCO,aCM h1]; rfl
 have aH:=EW (z:=k) (fun e au=>by obtain⟨x,_,rfl⟩:=aC9.1 au; exact hk x) aq ag;rw[aFV,Nat.div_add_mod] at aH;rw[aH];exact aCM _
theorem SL [Inhabited X] (hk:∀ x,(enc x).length=k) (xs:List X) {j:Nat} (am:j<xs.length*k) {c:ad} (ak:((xs.map enc).flatten)[j]? = some c) :(flatK (fun x=>(enc x).map valOf) k xs.toArray)[j]! = valOf c:=by
 obtain⟨x,c',h1,ag,aq⟩:=DQ hk xs am;rw[aq] at ak; cases ak;rw[get_flatK _ _ _ _ (by simpa using am)];have aH:xs.toArray[j / k]! = x:=by
  have aP:=(aCJ.1 h1).1;rw[getElem!_pos _ _ (by simpa using aP)];simpa using (aCJ.1 h1).2
 rw[aH];obtain⟨bd,bM⟩:=aCJ.1 ag;rw[getElem!_pos _ _ (by simpa using bd)];simp[bM]
theorem auB [Inhabited X] {f g b off len cap sz:Nat} {cs:List ad} {xs:List X} {h:bh} (iE:X->X->Int) (e0:HX P f g k (fun x=>(enc x).map valOf) iE) (eO:SWO (ltOf iE)) (JF:∀ x y,ltOf iE x y=false->ltOf iE y x=false->x=y)
  (hk:∀ x,(enc x).length=k) (aF:∀ x,∀ c∈enc x,AQ c=true) (tQ:∀ x y,bE P G g [.aM (enc x),.aM (enc y)] (.int .i64 (iE x y)))
  (ai:h.f b=.cells sz cs) (bu:xs.length=len) (h1:0<len) (oY:len<4611686018427387904) (bT:(cs.drop off).take (len*k)=(xs.map enc).flatten) (ea:off+len*k<=sz) :
  rT P G f [.av k b off len cap sz,.fn g [] []] h (.b5 []) (h.set b (.cells sz (bO cs off ((sorted iE xs).map enc).flatten))) :=by
 intro R B w μ vs rel E2 ar ay;obtain⟨oI⟩:=vs
 match oI,ar with
 | [v0,ft],_=>
 have iZ:=ay 0 _ v0 rfl rfl;have l7:=ay 1 _ ft rfl rfl;have amU:¬ uS h b sz:=by
  rintro (aG | ⟨n,og,aG,ag⟩)
  ·rw[ai] at aG; cases aG
  ·rw[ai] at aG; cases aG; omega
 cases l7 with
 | fn _ _ _ fs tx aL ak _ _=>
 have m7:fs=#[] :=aEO aL;have kY:tx=#[] :=aEO ak;subst m7 kY;cases iZ with
 | g4 _ _ _ _ _ _ _ _ _ _ aA=>exact absurd aA amU
 | iy=>omega
 | av _ _ _ _ _ _ cap' og m mx hm pb ax dM=>
 rw[ai] at mx; cases mx;have hblk:=rel.blk b m hm;rw[ai] at hblk;obtain⟨eB,fv,arr,e,gL,aC,dH,mz,jV⟩:=hblk;have lF:live (h.f b)=true:=by rw[ai]; rfl
 have fU:mh h μ m.r:=⟨b,m,lF,hm,rfl⟩
 have Kh:=rel.lt lF hm;have pa:∀ j,j<len*k->∃ c,((xs.map enc).flatten)[j]? = some c/\cs[off+j]? = some c/\AQ c=true:=by
  intro j am;obtain⟨x,c,aW,bg,bj⟩:=DQ hk xs (by rw[bu]; exact am);refine⟨c,bj,?_,aF x c (aCP bg)⟩;rw[<-bT,aCW am,aDh] at bj;exact bj
 have hH:HoldsK (fun x=>(enc x).map valOf) k w m.r (m.s+off) xs.toArray:=by
  intro j am;rw[size_flatK] at am;have fp:j<len*k:=by simpa [bu] using am
  obtain⟨c,aW,bg,bj⟩:=pa j fp;obtain⟨v,bL,bC,cv⟩:=jV (off+j) c bg;have aP:m.s+off+j<arr.size:=by
   have:=(aDn.1 bL).1;omega
  constructor
  ·simp only[World.cell?,aC,aEA];rw[SL hk xs (by rw[bu]; exact fp) aW,<-avL bj cv,aEm];exact bL
  ·simp only[World.frozen?,aC];rcases mz with aG | aG
   ·subst aG; simp
   ·simp; intro aq; omega
 have ak6:CmpLays P g #[] (fun x=>(enc x).map valOf) k iE m.r (m.s+off) xs.toArray.size w:=by
  intro n os aiP zL x y;obtain⟨W,gv⟩:∃ W,W=sortWorldK (fun x=>(enc x).map valOf) k w m.r (m.s+off) n aiP os:=⟨_,rfl⟩
  have akE:∀ i,i≠m.r->i<w.heap.size->W.heap[i]? = w.heap[i]?:=by
   intro i aB aP;rw[gv];show (((w.heap.modify m.r _)++os))[i]? = _;rw[aDZ (by simpa using aP),aEY,if_neg (fun h=>aB h.symm)]
  rw[<-gv];have c9:∀ i,(R i/\¬ mh h μ i)->i<w.heap.size->W.heap[i]? = w.heap[i]?:=fun i aB aP=>akE i (fun au=>aB.2 (by rw[au]; exact fU)) aP
  have key:=tQ x y W (fun i=>R i/\¬ mh h μ i) #[.agg ((enc x).map valOf).toArray,.agg ((enc y).map valOf).toArray] (fun Te=>avK c9 (w1 (E2 Te).2 (E2 Te).1)) rfl (fun j c v am fX=>by
   have one:∀ z:X,gc W (fun i=>R i/\¬ mh h μ i) (.aM (enc z)) (.agg ((enc z).map valOf).toArray) :=fun z=>by
    refine .aM _ _ (by simp) (fun i v aB=>?_) (fun i c v aB Um=>?_)
    ·simp only[aFp,aCO,aFi] at aB;obtain⟨c,_,rfl⟩:=aB;exact Nl c
    ·simp only[aFp,aCO,aFi] at Um;obtain⟨c',aq,rfl⟩:=Um;rw[aB] at aq; cases aq;exact Yg (aF z c (aCP aB))
   match j with
   | 0=>simp at am fX; subst am fX; exact one x
   | 1=>simp at am fX; subst am fX; exact one y
   | j+2=>simp at am)
  refine key.mono ?_;rintro e w' ⟨v,rfl,fo,l4⟩;obtain⟨q,LX,rfl⟩:=aeK fo;cases l4;exact⟨rfl,q,LX,rfl⟩
 have jv:=e0 m.r (m.s+off) cap' xs.toArray w ak6 hH Kh (by simpa [bu] using oY);have qn:((xs.toArray.size:Nat) :Int)=(len:Int) :=by simp[bu]
 rw[show (xs.toArray.size)=len by simp[bu]] at jv;refine jv.mono ?_;rintro fV w' ⟨rfl,tz,n,os,so,gU,rfl⟩;have vz:tz.toList=sorted iE xs:=by
  have:=sorted_unique_holds eO JF xs.toArray tz (by simpa [bu] using so) (by simpa [bu] using gU);simpa [sorted] using this
 obtain⟨bt,C3⟩:∃ bt,bt=sorted iE xs:=⟨_,rfl⟩
 rw[<-C3] at vz ⊢;have b8:bt.length=len:=by rw[C3,acy,bu]
 have JO:tz=bt.toArray:=by rw[<-vz]
 subst JO;have e1:((bt.map enc).flatten).length=len*k:=by
  have:∀ l:List X,((l.map enc).flatten).length=l.length*k:=fun l=>by
   induction l with
   | nil=>simp
   | cons a l aY=>simp only[aDc,aDM,aCS,aY,hk,aC6]; rw[aDj]; omega
  rw[this,b8]
 obtain⟨cb,kh⟩:∃ cb,cb=putRowK (fun x=>(enc x).map valOf) k (Sort.ahead w n) m.r (m.s+off) bt.toArray:=⟨_,rfl⟩
 have kB:cb.heap=w.heap.modify m.r (onCells (putCells id (m.s+off) (flatK (fun x=>(enc x).map valOf) k bt.toArray))) :=by rw[kh]; rfl
 have FE:off<=cs.length:=by omega
 obtain⟨ex,qE⟩:=rel.write (w':=cb) (sz':=sz) (cs':=bO cs off ((bt.map enc).flatten)) (arr':=putCells id (m.s+off) (flatK (fun x=>(enc x).map valOf) k bt.toArray) arr) ai hm aC dH mz (by rw[kh]; rfl) (by rw[kh]; rfl) (by rw[kh]; rfl) (by rw[kB]; simp)
  (by rw[kB,aEY,if_pos rfl,aC]; rfl) (fun i aB=>by rw[kB,aEY,if_neg (fun h=>aB h.symm)]) (by simp[putCells])
  (by rw[rJ FE,e1]; omega) (aCL _) fv (fun j c am=>by
   rw[MM FE,e1] at am;have eK:(putCells id (m.s+off) (flatK (fun x=>(enc x).map valOf) k bt.toArray) arr)[m.s+j]? = (arr[m.s+j]?).map fun x=>if m.s+off<=m.s+j/\m.s+j<m.s+off+(flatK (fun x=>(enc x).map valOf) k bt.toArray).size then (flatK (fun x=>(enc x).map valOf) k bt.toArray)[m.s+j - (m.s+off)]! else x:=by
    unfold putCells; rw[Array.getElem?_mapIdx]; rfl
   rw[size_flatK] at eK;by_cases zR:j<off
   ·rw[if_pos zR] at am;obtain⟨v,bL,bC,cv⟩:=jV j c am;refine⟨v,?_,bC,cv⟩;rw[eK,bL,aCR,if_neg (by omega)]
   ·rw[if_neg zR] at am;by_cases jX:j<off+len*k
    ·rw[if_pos jX] at am;have eW:j - off<len*k:=by omega
     obtain⟨wY,aW,bg,bj⟩:=pa (j - off) eW;rw[show off+(j - off)=j by omega] at bg;obtain⟨v,bL,bC,cv⟩:=jV j wY bg;obtain⟨x,cT,a2,b7,dG⟩:=DQ hk bt (j:=j - off) (by rw[b8]; exact eW);rw[dG] at am; cases am;refine⟨valOf c,?_,Nl c,Yg (aF x c (aCP b7))⟩;rw[eK,bL,aCR,if_pos (by simp[b8]; omega),show m.s+j - (m.s+off)=j - off by omega,SL hk bt (by rw[b8]; exact eW) dG]
    ·rw[if_neg jX] at am;obtain⟨v,bL,bC,cv⟩:=jV j c am;refine⟨v,?_,bC,cv⟩;rw[eK,bL,aCR,if_neg (by simp[b8]; omega)]) (by rw[kh]; exact Nat.le_add_right _ _)
 have JI:yT cb (grow cb os) :=⟨⟨rfl,rfl,rfl,by simp[grow],fun i aB=>by simp only[grow]; rw[aDZ aB]⟩,aCL _⟩
 obtain⟨vm,s5⟩:=DO qE JI;refine⟨_,μ,rfl,?_,?_,.b5 [] #[] rfl (fun j c v am _=>by simp at am)⟩
 ·rw[kh] at ex vm; exact ex.trans vm
 ·rw[kh] at s5; exact s5
end

section
variable {P:Program} {G:Nat->ad} {X:Type} {enc:X->List ad} {k:Nat}
theorem ace {k:Nat}:∀ {es:List (List ad)},(∀ e∈es,e.length=k)->es.flatten.length=es.length*k
 | [],_=>by simp
 | e::es,h=>by
  rw[aDM,aCS,h e (by simp),ace (fun x al=>h x (by simp[al])),aC6,aDj]; omega
theorem auA [Inhabited X] {f g:Nat} (iE:X->X->Int) (e0:HX P f g k (fun x=>(enc x).map valOf) iE) (eO:SWO (ltOf iE)) (JF:∀ x y,ltOf iE x y=false->ltOf iE y x=false->x=y)
  (hk:∀ x,(enc x).length=k) (aF:∀ x,∀ c∈enc x,AQ c=true) (tQ:∀ x y,bE P G g [.aM (enc x),.aM (enc y)] (.int .i64 (iE x y)))
  {l:aw} {v:ad} {j:Nat} {xs:List X} (fU:eJ k l v j (xs.map enc)) (oY:xs.length<4611686018427387904) {K:ad->aw->Prop}
  (aG:xs=[]->dS P G f [v,.fn g [] []] l (c:=⟨K⟩))
  (bA:∀ l',l'.length=l.length->(∀ b,b≠j->l'[b]? = l[b]?)->eJ k l' v j ((sorted iE xs).map enc)->K (.b5 []) l') :dS P G f [v,.fn g [] []] l (c:=⟨K⟩) :=by
 cases xs with
 | nil=>exact aG rfl
 | cons x xs=>
 obtain⟨bt,C3⟩:∃ bt,bt=x::xs:=⟨_,rfl⟩
 rw[<-C3] at fU oY bA;have h5:0<bt.length:=by rw[C3]; simp
 generalize lC:bt.map enc=es at fU;cases fU with
 | nil j=>rw[aDQ] at lC; rw[lC] at h5; simp at h5
 | av j off n cap sz cs es ai ar aI az ak dv bT=>
 subst lC;have sA:bt.length=n:=by simpa using aI
 have eD:n*k<=cap*k:=aCN _ ak;have eW:j<l.length:=(aCJ.1 ai).1;have ap:=auB (P:=P) (G:=G) (cap:=cap) iE e0 eO JF hk aF tQ (h:=cj l) (ln.2 ai) sA (by omega) (by omega) bT (by omega);rw[oN _ eW] at ap;refine⟨_,_,.ext ap,by simp,?_⟩;have dI:((sorted iE bt).map enc).length=n:=by rw[aCZ,acy,sA]
 have cW:∀ e∈(sorted iE bt).map enc,e.length=k:=fun e au=>by obtain⟨x,_,rfl⟩:=aC9.1 au; exact hk x
 have e1:(((sorted iE bt).map enc).flatten).length=n*k:=by rw[ace cW,dI]
 have FE:off<=cs.length:=by omega
 refine bA _ (by simp) (fun b he=>by rw[aCU (fun h=>he h.symm)]) ?_;refine .av j off n cap sz _ _ (aC3 eW) (by rw[rJ FE,e1]; omega) dI cW ak dv ?_;unfold bO;have h1:(List.take off cs).length=off:=by rw[aCX]; omega
 rw[aDa,aDp (by omega),aDC (by omega),aDq,aDb (by omega),aCI (by omega)]
end

end Go.ct

namespace Go.ct
open Go
section
variable {P:Program} {l:aw} {aN:Operand->ad}
@[simp ↓] theorem aBk:cg P aN l (.v7 none)=some (.mp l.length,l++[.map [] 0]) :=id rfl
@[simp ↓] theorem aBf (dQ:TypeId) (zero:ad) (ok:Bool) (m k:Operand) :cg P aN l (.AC dQ zero ok m k)=eo l (Dk P l dQ zero ok (aN m) (aN k)) :=id rfl
@[simp ↓] theorem aBm (dQ:TypeId) (m k x:Operand) :cg P aN l (.yl dQ m k x)=(yj P l dQ (aN m) (aN k) (aN x)).map fun l'=>(jk,l') :=id rfl
@[simp ↓] theorem aBe (x:Operand) :cg P aN l (.AB x)=eo l (Gv l (aN x)) :=id rfl
@[simp ↓] theorem aBr (x:Operand) :cg P aN l (.yw x)=DK l (aN x) :=id rfl
@[simp ↓] theorem aBp (x:Operand) :cg P aN l (.ym x)=wa l (aN x) :=id rfl
@[simp ↓] theorem aAs (x:Option Operand) (v:ad) (K:ad->aw->Prop) :fg (.v7 x) v l K=K v l:=id rfl
@[simp ↓] theorem aAn (dQ:TypeId) (zero:ad) (ok:Bool) (m k:Operand) (v:ad) (K:ad->aw->Prop) :fg (.AC dQ zero ok m k) v l K=K v l:=id rfl
@[simp ↓] theorem aAu (dQ:TypeId) (m k x:Operand) (v:ad) (K:ad->aw->Prop) :fg (.yl dQ m k x) v l K=K v l:=id rfl
@[simp ↓] theorem aAm (x:Operand) (v:ad) (K:ad->aw->Prop) :fg (.AB x) v l K=K v l:=id rfl
@[simp ↓] theorem aAz (x:Operand) (v:ad) (K:ad->aw->Prop) :fg (.yw x) v l K=K v l:=id rfl
@[simp ↓] theorem aAx (x:Operand) (v:ad) (K:ad->aw->Prop) :fg (.ym x) v l K=K v l:=id rfl
end

section
variable {z:Nat} {l l' : aw} {v:ad} {j:Nat} {es:List (List ad)}
theorem Bm (h:bW z l v j es) {by_:Nat} {x:ad} {xs:List (List ad)} (al:dL l z x=some (xs.flatten,xs.length)) (l9:∀ e∈xs,e.length=z) (aG:z≠0) (eQ:by_≠0) (eb:(es.length+xs.length)*by_<=c4) :
  ∃ bl cx l',g8 l z by_ v x=some (bl,l')/\bW z l' bl cx (es++xs)/\l.length<=l'.length/\(∀ b,b<l.length->v=.aK\/b≠j->l'[b]? = l[b]?)/\(l.length<=cx\/(v≠.aK/\cx=j)\/bl=.aK)/\cX bl=(cX v&&xs.isEmpty) :=by
 by_cases ay:v=.aK
 ·subst ay;have au:es=[] :=h.q.rz;subst au;obtain⟨bl,cx,l1,h1,ag,aq,aH,bd,bM⟩:=oR (.nil (z:=z) (l:=l) (l.length+1)) al l9 aG eQ eb;refine⟨bl,cx,l1,h1,ag,aq,fun b ai _=>aH b ai (by omega),?_,ui bM⟩;rcases bd with bd | bd
  ·exact .inl (by omega)
  ·exact .inl bd
 ·obtain⟨bl,cx,l1,h1,ag,aq,aH,bd,bM⟩:=oR h al l9 aG eQ eb;refine⟨bl,cx,l1,h1,ag,aq,fun b ai aI=>aH b ai (aI.resolve_left ay),?_,ui bM⟩;rcases bd with bd | bd
  ·exact .inr (.inl ⟨ay,bd⟩)
  ·exact .inl bd
theorem bW.c6 (h:bW z l v j es) (aL:∀ b,b<l.length->b=j->l'[b]? = l[b]?) :bW z l' v j es:=h.frame fun am=>aL j am rfl
theorem dx.zo {K:ad->aw->Prop} (h:bW z l v j es) (ay:cX v=false) (bA:K (.cr z es) (l.set j .dead)) :dx v l (c:=⟨K⟩) :=by
 cases h with
 | nil j=>cases ay
 | av j n cap sz cs es ai ar aI az ak dv bT=>
 have aP:=fW ai;have bX:(cj (l.set j .dead)).f j=.dead:=by rw[oM,aEg,if_pos rfl,if_pos aP]
 have eD:n*z<=cap*z:=aCN _ ak;refine .inr ⟨_,_,⟨by simp,fun bK=>?_⟩,.av z j 0 n cap sz cs es (ln.2 ai) bX aI az (by omega) (fun i k e c c' au hk sq=>?_),bA⟩
 ·by_cases cy:bK=j
  ·subst cy; exact .inr ⟨sz,cs,ln.2 ai,.inl bX⟩
  ·left;rw[oM,oM,aEg,if_neg (by omega)]
 ·have CA:k<z:=by rw[<-az e (aCP au)]; exact (aCJ.1 hk).1
  have aB:=(aCJ.1 au).1;have hm:i*z+z<=n*z:=by rw[<-aDj]; exact aCN _ (by omega)
  have h1:=EW az au CA;rw[<-bT,aCW (by omega),hk] at h1;rw[aDT,h1] at sq;cases sq;exact .same _
end
inductive mi where
 | b
 | i (k:IntKind)
 | s
def D5:mi->ad->Bool
 | .b,.bool _=>true
 | .i k,.int k' _=>decide (k=k')
 | .s,.str _=>true
 | _,_=>false
def ir:List mi->List ad->Bool
 | [],[]=>true
 | k::cK,c::cs=>D5 k c&&ir cK cs
 | _,_=>false
theorem Dq:∀ {cK:List mi} {cs:List ad},ir cK cs=true->cs.length=cK.length
 | [],[],_=>rfl
 | [],_::_,h=>by cases h
 | _::_,[],h=>by cases h
 | k::cK,c::cs,h=>by simp only[ir,aCQ] at h; simp[Dq h.2]
theorem Dr:∀ {l r:List mi} {m:List ad},ir (l++r) m=true->∃ kn ko,m=kn++ko/\ir l kn=true/\ir r ko=true
 | [],r,m,h=>⟨[],m,rfl,rfl,h⟩
 | k::l,r,[],h=>by cases h
 | k::l,r,c::m,h=>by
  simp only[aDG,ir,aCQ] at h;obtain⟨kn,ko,rfl,h1,ag⟩:=Dr h.2;exact⟨c::kn,ko,rfl,by simp[ir,h.1,h1],ag⟩
theorem XV {k:IntKind} {xs:List ad} (h:ir [.i k] xs=true) :∃ p,xs=[.int k p] :=by
 cases xs with
 | nil=>cases h
 | cons c r=>
  simp only[ir,aCQ] at h;cases r with
  | cons _ _=>cases h.2
  | nil=>
   cases c<;>simp only[D5] at h<;>try (cases h.1; done)
   rename_i k' p;have hk:k=k':=by simpa using h.1
   subst hk;exact⟨p,rfl⟩
theorem Ig:∀ {gD hp iV jL:List ad},gD.length=hp.length->fJ (gD++iV) (hp++jL)=(fJ gD hp&&fJ iV jL)
 | [],[],_,_,_=>by simp[fJ]
 | [],_::_,_,_,h=>by simp at h
 | _::_,[],_,_,h=>by simp at h
 | a::gD,b::hp,iV,jL,h=>by
  simp only[aC6,Nat.add_right_cancel_iff] at h;simp only[aDG,fJ,Ig h,Bool.and_assoc]
section
variable (P:Program)
def Gs (f:TypeId->Option (List mi)) :List Field->Nat->Option (List mi)
 | [],_=>some []
 | fd::fs,o=>match f fd.type,c5 P fd.type with
  | some l,some z=>match fd.name != "_"&&Nat.beq fd.offset o&&Nat.beq l.length z with
   | true=>match Gs f fs (o+z) with
    | some r=>some (l++r)
    | none=>none
   | false=>none
  | _,_=>none
def qw:Nat->TypeId->Option (List mi)
 | 0,_=>none
 | d+1,t=>match P.underlying t with
  | some .bool=>some [.b]
  | some (.int k)=>some [.i k]
  | some .string=>some [.s]
  | some (.array n e)=>match qw d e,c5 P e with
   | some l,some z=>match Nat.beq l.length z with
    | true=>some (List.replicate n l).flatten
    | false=>none
   | _,_=>none
  | some (.struct fs)=>match P.stoodInHeld t with
   | false=>Gs P (qw d) fs.toList 0
   | true=>none
  | _=>none
def lV (t:TypeId) (l:List ad) :Option ad:=match e8 P t with
 | some true=>some (.aM l)
 | some false=>l[0]?
 | none=>none
end
variable {P:Program}
theorem G3 {t:TypeId} {z:Nat} (az:c5 P t=some z) {pre mid post:List ad} (hm:mid.length=z) (aA:e8 P t=some false->mid.length=1) :iv P t (pre++(mid++post)) pre.length=lV P t mid:=by
 unfold iv lV;rw[az];cases aD:e8 P t with
 | none=>rfl
 | some g=>
  cases g with
  | true=>
   simp only;rw[if_pos (by simp; omega),aF5,aDb (by omega),aCI (by omega)]
  | false=>
   have:=aA aD;simp only;rw[aCT (by omega),aEX,aCK (by omega)]
def EqAt (P:Program) (f:TypeId->Option (List mi)) (eq:TypeId->ad->ad->Option Bool) :Prop:=
 ∀ t cK,f t=some cK->(e8 P t=some false->cK.length=1)/\∀ xs bt,ir cK xs=true->ir cK bt=true->∃ a b,lV P t xs=some a/\lV P t bt=some b/\eq t a b=some (fJ xs bt)
theorem Su {f:TypeId->Option (List mi)} {eq:TypeId->ad->ad->Option Bool} (au:EqAt P f eq) :∀ (fs:List Field) (o:Nat) (cK:List mi),Gs P f fs o=some cK->∀ (pv pw dg po:List ad),pv.length=o->pw.length=o->ir cK dg=true->ir cK po=true->
  fk.eqFields P eq (pv++dg) (pw++po) fs=some (fJ dg po)
 | [],o,cK,h,pv,pw,dg,po,al,aE,rq,uo=>by
  cases h;cases dg with
  | nil=>cases po with | nil=>rfl | cons _ _=>cases uo
  | cons _ _=>cases rq
 | fd::fs,o,cK,h,pv,pw,dg,po,al,aE,rq,uo=>by
  unfold Gs at h;split at h
  ·rename_i l z ar az;split at h
   ·rename_i ak;simp only[aCQ,bne_iff_ne,ne_eq] at ak;split at h
    ·rename_i r aC;cases h;obtain⟨gD,iV,rfl,br,bI⟩:=Dr rq;obtain⟨hp,jL,rfl,dE,dA⟩:=Dr uo;have ax:fd.offset=o:=aDP ak.1.2;have FU:l.length=z:=aDP ak.2;obtain⟨aW,bg⟩:=au _ _ ar;obtain⟨a,b,tA,qZ,w9⟩:=bg gD hp br dE;have LC:=Dq br;have LD:=Dq dE;unfold fk.eqFields;rw[if_neg ak.1.1,ax];rw[show iv P fd.type (pv++(gD++iV)) o=some a by rw[<-al,G3 az (by omega) (fun h=>by rw[LC]; exact aW h)]; exact tA];rw[show iv P fd.type (pw++(hp++jL)) o=some b by rw[<-aE,G3 az (by omega) (fun h=>by rw[LD]; exact aW h)]; exact qZ];simp only[w9];rw[Ig (by omega)];have aY:=Su au fs (o+z) r aC (pv++gD) (pw++hp) iV jL (by simp; omega) (by simp; omega) bI dA;rw[aDa,aDa] at aY;cases fJ gD hp with
     | true=>simpa using aY
     | false=>simp
    ·cases h
   ·cases h
  ·cases h
theorem St {eq:TypeId->ad->ad->Option Bool} {e:TypeId} {l:List mi} {z:Nat} (az:c5 P e=some z) (FU:l.length=z) (aA:e8 P e=some false->l.length=1)
  (au:∀ xs bt,ir l xs=true->ir l bt=true->∃ a b,lV P e xs=some a/\lV P e bt=some b/\eq e a b=some (fJ xs bt)) :∀ (n i:Nat) (pv pw dg po:List ad),pv.length=i*z->pw.length=i*z->ir (List.replicate n l).flatten dg=true->ir (List.replicate n l).flatten po=true->
  fk.sd P eq e z (pv++dg) (pw++po) n i=some (fJ dg po)
 | 0,i,pv,pw,dg,po,al,aE,rq,uo=>by
  simp only[List.replicate_zero,List.flatten_nil] at rq uo;cases dg with
  | nil=>cases po with | nil=>rfl | cons _ _=>cases uo
  | cons _ _=>cases rq
 | n+1,i,pv,pw,dg,po,al,aE,rq,uo=>by
  rw[aDW,aDM] at rq uo;obtain⟨gD,iV,rfl,br,bI⟩:=Dr rq;obtain⟨hp,jL,rfl,dE,dA⟩:=Dr uo;obtain⟨a,b,tA,qZ,w9⟩:=au gD hp br dE;have LC:=Dq br;have LD:=Dq dE;unfold fk.sd;rw[show iv P e (pv++(gD++iV)) (i*z)=some a by rw[<-al,G3 az (by omega) (fun h=>by rw[LC]; exact aA h)]; exact tA];rw[show iv P e (pw++(hp++jL)) (i*z)=some b by rw[<-aE,G3 az (by omega) (fun h=>by rw[LD]; exact aA h)]; exact qZ];simp only[w9];rw[Ig (by omega)];have aY:=St az FU aA au n (i+1) (pv++gD) (pw++hp) iV jL (by simp[aDj]; omega) (by simp[aDj]; omega) bI dA;rw[aDa,aDa] at aY;cases fJ gD hp with
  | true=>simpa using aY
  | false=>simp
theorem IQ:∀ (d D:Nat),d<=D->EqAt P (qw P d) (fk P D)
 | 0,D,_,t,cK,h=>by cases h
 | d+1,0,bX,t,cK,h=>by omega
 | d+1,D+1,bX,t,cK,h=>by
  have aY:=IQ d D (by omega);unfold qw at h;split at h
  ·rename_i aS;have aD:e8 P t=some false:=by unfold e8; rw[aS]; rfl
   cases h;refine⟨fun _=>rfl,fun xs bt al aE=>?_⟩
   match xs,bt,al,aE with
   | [.bool p],[.bool q],_,_=>
    refine⟨.bool p,.bool q,by simp[lV,aD],by simp[lV,aD],?_⟩;unfold fk; rw[aS];cases p<;>cases q<;>rfl
  ·rename_i k aS;have aD:e8 P t=some false:=by unfold e8; rw[aS]; rfl
   cases h;refine⟨fun _=>rfl,fun xs bt al aE=>?_⟩;obtain⟨p,rfl⟩:=XV al;obtain⟨q,rfl⟩:=XV aE
   ·refine⟨.int k p,.int k q,by simp[lV,aD],by simp[lV,aD],?_⟩;unfold fk; rw[aS];by_cases h:p=q<;>simp[fJ,ad.beq,h]
  ·rename_i aS;have aD:e8 P t=some false:=by unfold e8; rw[aS]; rfl
   cases h;refine⟨fun _=>rfl,fun xs bt al aE=>?_⟩
   match xs,bt,al,aE with
   | [.str p],[.str q],_,_=>
    refine⟨.str p,.str q,by simp[lV,aD],by simp[lV,aD],?_⟩;unfold fk; rw[aS];by_cases h:p=q<;>simp[fJ,ad.beq,h]
  ·rename_i n e aS;have aD:e8 P t=some true:=by unfold e8; rw[aS]; rfl
   split at h
   ·rename_i l z ar az;split at h
    ·rename_i FU;cases h;obtain⟨aW,bg⟩:=aY _ _ ar;refine⟨fun h=>(by rw[aD] at h; cases h),fun xs bt al aE=>⟨.aM xs,.aM bt,by simp[lV,aD],by simp[lV,aD],?_⟩⟩;unfold fk; rw[aS];simp only[az];exact St az (aDP FU) aW bg n 0 [] [] xs bt (by simp) (by simp) al aE
    ·cases h
   ·cases h
  ·rename_i fs aS;have aD:e8 P t=some true:=by unfold e8; rw[aS]; rfl
   split at h
   ·rename_i ap;refine⟨fun h=>(by rw[aD] at h; cases h),fun xs bt al aE=>⟨.aM xs,.aM bt,by simp[lV,aD],by simp[lV,aD],?_⟩⟩;unfold fk; rw[aS];simp only[ap,aDV,if_false];exact Su aY fs.toList 0 cK h [] [] xs bt rfl rfl al aE
   ·cases h
  ·cases h
theorem yY {t:TypeId} {cK:List mi} (hk:qw P 20 t=some cK) (aD:e8 P t=some true) (aA:P.eqGuardType P.depth t=false) {xs bt:List ad} (al:ir cK xs=true) (aE:ir cK bt=true) :gu P .eql t (.aM xs) (.aM bt)=some (.bool (fJ xs bt)) :=by
 obtain⟨a,b,tA,qZ,w9⟩:=(IQ (P:=P) 20 10000 (by omega) t cK hk).2 xs bt al aE;simp only[lV,aD,Option.some.injEq] at tA qZ;subst tA; subst qZ;exact aeE aA w9
theorem Et {t:TypeId} {cK:List mi} (hk:qw P 20 t=some cK) (aD:e8 P t=some true) (aA:P.eqGuardType P.depth t=false) {xs bt:List ad} (al:ir cK xs=true) (aE:ir cK bt=true) :gu P .neq t (.aM xs) (.aM bt)=some (.bool (!fJ xs bt)) :=by
 obtain⟨a,b,tA,qZ,w9⟩:=(IQ (P:=P) 20 10000 (by omega) t cK hk).2 xs bt al aE;simp only[lV,aD,Option.some.injEq] at tA qZ;subst tA; subst qZ;exact aeF aA w9
end Go.ct

namespace Go.ct
open Go Go.Proofs Go.Shelf
structure Bf (P:Program) (f:FuncId) (T I e z:Nat) :Prop where
 yM:P.underlying T=some (.slice e)
 avx:P.underlying I=some (.int .i64)
 fin:∀ (base:Option Addr) (n c eY fN ho:Nat) (r:Value) (w w' : World),n<=c->n<=4611686018427387904->(base=none->n=0/\c=0)->
  (Builtin.append_ #[T,T] T #[.slice base n c,.slice (some ⟨fN,ho,none⟩) 1 eY]).run P w=.ok r w'->
  Calls P f #[.slice base n c,.int .i64 n,.slice (some ⟨fN,ho,none⟩) 1 eY] w fun x w2=>x=.returned r/\w2=w'
 shift:∀ (b off n c i fN ho eY:Nat) (cn cc:Value) (w jQ hY:World) (yG fQ:TypeId) (qt sM:Nat),i<n->n+1<=c->n<=4611686018427387904->fN≠b->
  w.shape? fN=some (yG,qt)->w.shape? b=some (fQ,sM)->sM≠0->w.frozen? ⟨fN,ho,none⟩=false->w.frozen? ⟨fN,qt,none⟩=false->
  (Builtin.copy_ #[T,T] I #[.slice (some ⟨b,off+(i+1)*z,none⟩) (n - i) (c - (i+1)),.slice (some ⟨b,off+i*z,none⟩) (n+1 - i) (c - i)]).run P w.drew=.ok cn jQ->
  (Builtin.copy_ #[T,T] I #[.slice (some ⟨b,off+i*z,none⟩) (n+1 - i) (c - i),.slice (some ⟨fN,ho,none⟩) 1 eY]).run P jQ=.ok cc hY->
  Calls P f #[.slice (some ⟨b,off,none⟩) n c,.int .i64 i,.slice (some ⟨fN,ho,none⟩) 1 eY] w fun x w2=>x=.returned (.slice (some ⟨b,off,none⟩) (n+1) c)/\w2=hY
 grow:∀ (b off n c i fN ho eY N G:Nat) (cn cc:Value) (w uX jQ hY:World),i<n->n<=c->c<n+1->n+1<=G->n<=4611686018427387904->
  (Builtin.append_ #[T,I] T #[.slice (some ⟨b,off,none⟩) i c,.int .i64 ((n:Int)+1 - (i:Int))]).run P w=.ok (.slice (some ⟨N,0,none⟩) (n+1) G) uX->
  (Builtin.copy_ #[T,T] I #[.slice (some ⟨N,i*z,none⟩) (n+1 - i) (G - i),.slice (some ⟨fN,ho,none⟩) 1 eY]).run P uX=.ok cn jQ->
  (Builtin.copy_ #[T,T] I #[.slice (some ⟨N,(i+1)*z,none⟩) (n - i) (G - (i+1)),.slice (some ⟨b,off+i*z,none⟩) (n - i) (c - i)]).run P jQ.drew=.ok cc hY->
  Calls P f #[.slice (some ⟨b,off,none⟩) n c,.int .i64 i,.slice (some ⟨fN,ho,none⟩) 1 eY] w fun x w2=>x=.returned (.slice (some ⟨N,0,none⟩) (n+1) G)/\w2=hY
section
variable {P:Program} {G:Nat->ad} {R:Nat->Prop} {B:Nat} {w:World} {h:bh} {μ:dd}
theorem Gw (rel:cp R B w h μ) {b sz o n:Nat} {cs:List ad} {m:M} (ai:h.f b=.cells sz cs) (hm:μ b=some m) (ea:o+n<=sz) :
  ∃ vs:List Value,tk w R h μ ((cs.drop o).take n) vs/\(loadCells ⟨m.r,m.s+o,none⟩ n).run P w=.ok vs.toArray w:=by
 have fe:=rel.blk b m hm;rw[ai] at fe;obtain⟨eB,fv,arr,e,gL,aC,dH,mz,jV⟩:=fe;have bu:((cs.drop o).take n).length=n:=by rw[aCX,aDS]; omega
 obtain⟨vs,cW,ar⟩:=MC (P:=P) (w:=w) (R:=R) (h:=h) (μ:=μ) (w2:=w) (xs:=(cs.drop o).take n) (blk:=m.r) (o:=m.s+o) (fun _=>rfl) (fun j c am=>by
  have aP:j<n:=by have:=(aCJ.1 am).1; omega
  rw[aCW aP,aDh] at am;obtain⟨v,h1,ag,aq⟩:=jV (o+j) c am;refine⟨v,?_,ag,aq⟩;simp only[World.cell?,aC,aEA];rw[aEm];exact h1)
 refine⟨vs,cW,?_⟩;have:=ar n (by omega) w (fun _=>rfl)
 rwa [aCI (by rw[cW.1,bu]; exact aCL _)] at this
theorem EH (rel:cp R B w h μ) {t u ty e z:Nat} (k2:P.underlying t=some (.slice e)) (az:c5 P e=some z) {b sz k:Nat} {cs:List ad} {m:M} (ai:h.f b=.cells sz cs) (hm:μ b=some m) (hk:k<=sz)
  {dLen dc sLen sc cnt:Nat} {a:Addr} {xs:List ad} {vs:List Value} (zJ:Nat.min sLen dLen=cnt) (bm:xs.length=cnt*z) (alX:(loadCells a (cnt*z)).run P w=.ok vs.toArray w)
  (cW:tk w R h μ xs vs) (fv:m.s+max sz (k+cnt*z)<=m.T) :
  ∃ w',(Builtin.copy_ #[t,u] ty #[.slice (some ⟨m.r,m.s+k,none⟩) dLen dc,.slice (some a) sLen sc]).run P w=.ok (goInt cnt) w' ∧
   ej w h μ w' (h.set b (.cells (max sz (k+cnt*z)) (bO cs k xs))) μ/\cp R B w' (h.set b (.cells (max sz (k+cnt*z)) (bO cs k xs))) μ:=by
 obtain⟨w',h1,ag,aq⟩:=yO (P:=P) rel (cvs:=xs) (vs:=vs) (k:=k) ai hm hk cW.1 (by rw[bm]; exact fv) cW.2;rw[bm] at ag aq;refine⟨w',?_,ag,aq⟩;simp[Builtin.copy_,cZ k2,Builtin.lenOf,Builtin.firstCells,gh az,zJ,alX,h1]
theorem ab7 {cb:World} {h1:bh} {hJ:dd} (qE:cp R B cb h1 hJ) (ex:ej w h μ cb h1 hJ) {b z n nc ns:Nat} {row:List ad} {v:Value} (aL:h1.f=ck h.f b (.cells ns row)) (aI:h1.n=h.n) (sB:ns=nc*z) (aG:0<n) (o4:b<h.n)
  (ay:aZ cb R h1 hJ (.av z b 0 n nc ns) v) :
  ∃ μ',ej w h μ cb ((h.set b .dead).push (.cells ns row)) μ'/\cp R B cb ((h.set b .dead).push (.cells ns row)) μ'/\aZ cb R ((h.set b .dead).push (.cells ns row)) μ' (.av z h.n 0 n nc ns) v:=by
 have hd:h1.f b=.cells ns row:=by rw[aL,kz]
 cases ay with
 | g4 _ _ _ _ _ _ _ _ _ _ aA=>
  exfalso;rcases aA with aA | ⟨hE,cs',aA,aP⟩
  ·rw[hd] at aA; cases aA
  ·rw[hd] at aA; cases aA; omega
 | iy=>omega
 | av _ _ _ _ _ _ cap' og m mx hm ar ax dM=>
  have ql:=qE.ab6 (b:=b) (off:=0) (m:=m) (h':=(h.set b .dead).push (.cells ns row)) hd hm (aD5 _) (by
   rw[eS,ez,fw,aL,aI];funext x;simp only[ck,aFt,aDH];by_cases ag:x=h.n
   ·rw[if_pos ag,if_pos ag]
   ·rw[if_neg ag,if_neg ag];split<;>rfl) (by rw[ga,fw,aI])
  refine⟨_,ex.trans ql.1,ql.2,?_⟩;rw[aI];exact .av z h.n 0 n nc ns cap' row ⟨m.r,m.s+0,m.T⟩ (by rw[eS,fw,kz]) (by simp) ar ax (by
   rcases dM with dM | ⟨sq,m4,zI⟩
   ·omega
   ·exact .inr ⟨sq,m4,by simpa using zI⟩)
theorem Oj (w:World) :RowKit.Below w.heap.size w w.drew:=⟨rfl,rfl,rfl,aCL _,fun _ _=>rfl⟩
theorem anD {z i len:Nat} {cs vs:List ad} (mD:vs.length=z) (aB:i<len) (ar:len*z<=cs.length) :
  bO (bO cs ((i+1)*z) ((cs.drop (i*z)).take ((len - i)*z))) (i*z) vs=ma z cs vs i len:=by
 have h1:(i+1)*z=i*z+z:=by rw[aDj]
 have ag:(i+1)*z<=len*z:=aCN _ aB;have aq:i*z+(len - i)*z=len*z:=by rw[<-aDg]; congr 1; omega
 have aH:(len+1)*z=len*z+z:=by rw[aDj]
 have ja:((cs.drop (i*z)).take ((len - i)*z)).length=(len - i)*z:=by rw[aCX,aDS]; omega
 have c9:(cs.take ((i+1)*z)).length=i*z+z:=by rw[aCX]; omega
 unfold ma bO;rw[ja,mD];have a2:(i+1)*z+(len - i)*z=(len+1)*z:=by omega
 rw[a2,aDa (cs.take ((i+1)*z)),aDb (by rw[c9]; omega),aEt,show min (i*z) ((i+1)*z)=i*z by omega];rw[show i*z+z=(cs.take ((i+1)*z)).length by rw[c9],aF5];simp only[aDa]
theorem anz {z i len:Nat} {cs vs:List ad} (mD:vs.length=z) (aB:i<len) (ar:len*z=cs.length) :
  bO (bO (cs.take (i*z)) (i*z) vs) ((i+1)*z) ((cs.drop (i*z)).take ((len - i)*z))=ma z cs vs i len:=by
 have h1:(i+1)*z=i*z+z:=by rw[aDj]
 have ag:(i+1)*z<=len*z:=aCN _ aB;have aq:i*z+(len - i)*z=len*z:=by rw[<-aDg]; congr 1; omega
 have aH:(len+1)*z=len*z+z:=by rw[aDj]
 have c9:(cs.take (i*z)).length=i*z:=by rw[aCX]; omega
 have ih:bO (cs.take (i*z)) (i*z) vs=cs.take (i*z)++vs:=by
  unfold bO;rw[aDB (by rw[c9]; omega),aDl,aCI (by rw[c9]; exact aCL _)]
 rw[ih];unfold ma bO;have a2:(cs.take (i*z)++vs).take ((i+1)*z)=cs.take (i*z)++vs:=aCI (by rw[aCS,c9,mD]; omega);have b7:∀ k,(cs.take (i*z)++vs).drop ((i+1)*z+k)=[] :=fun k=>aDB (by rw[aCS,c9,mD]; omega)
 have dG:cs.drop ((len+1)*z)=[] :=aDB (by omega);rw[a2,b7,dG]
theorem aoF (a b z:Nat) :max a b*z=max (a*z) (b*z) :=by
 rcases Nat.le_total a b with h | h
 ·rw[aE2 h,aE2 (aCN _ h)]
 ·rw[aF2 h,aF2 (aCN _ h)]
theorem ant {T e z by_:Nat} (dH:i7 P T=some e) (az:c5 P e=some z) (eQ:jp P e=some by_) (qe:0<z) (xE:0<by_) (il:td P e=some z)
  {b bv len cap:Nat} {cs vs:List ad} (ai:h.f b=.cells (cap*z) cs) (eB:cs.length=cap*z) (jc:h.f bv=.cells z vs) (mD:vs.length=z) (pb:len<=cap) (eb:(len+1)*by_<=c4) :
  r2 P h T (.av z b 0 len cap (cap*z)) (.av z bv 0 1 1 z)=some (.av z b 0 (len+1) (max cap (len+1)) (max cap (len+1)*z),h.set b (.cells (max cap (len+1)*z) (ma z cs vs len len))) :=by
 have aH:(len+1)*z=len*z+z:=by rw[aDj]
 have eD:len*z<=cap*z:=aCN _ pb;have cW:ma z cs vs len len=cs.take (len*z)++vs++cs.drop ((len+1)*z) :=by simp[ma]
 have l7:(vs.drop 0).take (1*z)=vs:=by rw[aDH,aFj,aCI (by omega)]
 unfold r2;rw[dH];simp only[az,eQ,contents,jc,and_self,if_true,l7];unfold u2;rw[if_neg (by omega),if_neg (by rw[il]; simp; omega)];simp only[ai,true_and,eb,if_true];by_cases aL:len+1<=cap
 ·have UB:(len+1)*z<=cap*z:=aCN _ aL;rw[if_pos aL,aF2 aL,cW];simp only[bO,aDT,mD,<-aH]
 ·obtain rfl:len=cap:=by omega
  rw[if_neg aL,if_neg (by omega),aE2 (by omega),cW,aDB (by omega),aDl]
theorem Lb {f T I e z by_:Nat} (L:Bf P f T I e z) (dH:i7 P T=some e) (az:c5 P e=some z) (eQ:jp P e=some by_) (qe:0<z) (xE:0<by_) (il:td P e=some z)
  {b bv len cap i:Nat} {cs vs:List ad} (ai:h.f b=.cells (cap*z) cs) (jc:h.f bv=.cells z vs) (b2:bv≠b) (aB:i<=len) (pb:len<=cap) (eb:(len+1)*by_<=c4) :
  rT P G f [.av z b 0 len cap (cap*z),.int .i64 i,.av z bv 0 1 1 z] h (.av z h.n 0 (len+1) (max cap (len+1)) (max cap (len+1)*z)) ((h.set b .dead).push (.cells (max cap (len+1)*z) (ma z cs vs i len))) :=by
 intro R B w μ eT rel E2 ar ay;obtain⟨oI⟩:=eT
 match oI,ar with
 | [v0,ft,ei],_=>
 have iZ:=ay 0 _ v0 rfl rfl;have l7:=ay 1 _ ft rfl rfl;have qp:=ay 2 _ ei rfl rfl;have KM:=qp;cases l7;have oY:len<=4611686018427387904:=by
  have:=Nat.le_mul_of_pos_right (len+1) xE;unfold c4 at eb;omega
 have Kk:AH P T:=⟨_,L.yM,fun k hk=>by cases hk⟩
 have kg:=aoF cap (len+1) z;have aH:(len+1)*z=len*z+z:=by rw[aDj]
 have eD:len*z<=cap*z:=aCN _ pb;cases qp with
 | g4 _ _ _ _ _ _ _ _ _ _ aA=>
  exfalso;rcases aA with aA | ⟨hE,cs',aA,aP⟩
  ·rw[jc] at aA; cases aA
  ·rw[jc] at aA; cases aA; omega
 | av _ _ _ _ _ _ eY avM aO akZ xW qb CN kY=>
 have Ci:=rel.blk bv aO xW;rw[jc] at Ci;obtain⟨mD,ayO,Oc,ek,ayk,KC,ayx,Uc,ayJ⟩:=Ci;by_cases dZ:i=len
 ·subst dZ;have al3:∃ a cap',v0=.slice (some a) i cap'/\i<=cap'/\cs.length=cap*z/\b<h.n:=by
   cases iZ with
   | g4 _ _ _ _ _ _ _ _ _ _ aA=>
    exfalso;rcases aA with aA | ⟨hE,cs',aA,aP⟩
    ·rw[ai] at aA; cases aA
    ·rw[ai] at aA; cases aA; omega
   | iy _ _ _ _ a og m mx hm=>
    have fe:=rel.blk b m hm;rw[ai] at fe;exact⟨a,0,rfl,aCL _,fe.1,rel.r4 hm⟩
   | av _ _ _ _ _ _ cap' og m mx hm ar ax dM=>
    have fe:=rel.blk b m hm;rw[ai] at fe;exact⟨_,cap',rfl,by omega,fe.1,rel.r4 hm⟩
  obtain⟨a,cap',rfl,FS,eB,o4⟩:=al3;obtain⟨v,cb,hJ,iY,zN,KA,uf⟩:=H9 (P:=P) (ty:=T) (u:=T) rel Kk (ant (P:=P) dH az eQ qe xE il ai eB jc mD pb eb) iZ KM;refine (L.fin (some a) i cap' eY aO.r (aO.s+0) v w cb FS oY (fun h=>by cases h) iY).mono ?_;rintro x w2 ⟨rfl,rfl⟩;obtain⟨μ',h1,ag,aq⟩:=ab7 (h:=h) KA zN (b:=b) (row:=ma z cs vs i i) (ns:=max cap (i+1)*z) (ez _ _ _) rfl rfl (by omega) o4 uf;exact⟨v,μ',rfl,h1,ag,aq⟩
 have Cv:i<len:=by omega
 have ayo:(i+1)*z=i*z+z:=by rw[aDj]
 have ayq:(i+1)*z<=len*z:=aCN _ Cv;have ayr:i*z+(len - i)*z=len*z:=by rw[<-aDg]; congr 1; omega
 cases iZ with
 | g4 _ _ _ _ _ _ _ _ _ _ aA=>
  exfalso;rcases aA with aA | ⟨hE,cs',aA,aP⟩
  ·rw[ai] at aA; cases aA
  ·rw[ai] at aA; cases aA; omega
 | iy=>omega
 | av _ _ _ _ _ _ cap' og m mx hm ayY ax dM=>
 rw[ai] at mx; cases mx;have fe:=rel.blk b m hm;rw[ai] at fe;obtain⟨eB,ayN,arr,qZ,gL,aC,ayw,mz,jV⟩:=fe;obtain⟨m4,zI⟩:cap<=cap'/\m.s+cap'*z<=m.T:=by
  rcases dM with dM | ⟨sq,m4,zI⟩
  ·omega
  ·exact⟨m4,by simpa using zI⟩
 have o4:=rel.r4 hm;have Kh:aO.r≠m.r:=fun au=>b2 (rel.inj bv b aO m (by rw[jc]; rfl) (by rw[ai]; rfl) xW hm au)
 have l7:(vs.drop 0).take z=vs:=by rw[aDH,aCI (by omega)]
 have kb:((cs.drop (i*z)).take ((len - i)*z)).length=(len - i)*z:=by rw[aCX,aDS]; omega
 by_cases fv:len+1<=cap'
 ·have UB:(len+1)*z<=cap'*z:=aCN _ fv;obtain⟨EP,uC⟩:=Mq rel (w':=w.drew) (Oj w);obtain⟨ls,F4,Ke⟩:=Gw (P:=P) uC (o:=i*z) (n:=(len - i)*z) ai hm (by omega);obtain⟨jQ,p3,BM,qE⟩:=EH (P:=P) (t:=T) (u:=T) (ty:=I) uC L.yM az (k:=(i+1)*z) ai hm (by omega) (dLen:=len - i) (dc:=cap' - (i+1)) (sLen:=len+1 - i) (sc:=cap' - i) (cnt:=len - i)
   (by simp only[aF3]; split<;>omega) kb Ke F4 (by omega)
  have qm:max (cap*z) ((i+1)*z+(len - i)*z)=max cap (len+1)*z:=by omega
  rw[qm] at BM qE;have hd:(h.set b (.cells (max cap (len+1)*z) (bO cs ((i+1)*z) ((cs.drop (i*z)).take ((len - i)*z))))).f b=.cells (max cap (len+1)*z) (bO cs ((i+1)*z) ((cs.drop (i*z)).take ((len - i)*z))) :=by rw[ez,kz]
  have ak0:(h.set b (.cells (max cap (len+1)*z) (bO cs ((i+1)*z) ((cs.drop (i*z)).take ((len - i)*z))))).f bv=.cells z vs:=by rw[ez,cB _ _ _ _ b2]; exact jc
  obtain⟨GD,F5,Kf⟩:=Gw (P:=P) qE (o:=0) (n:=z) ak0 xW (by omega);rw[l7] at F5;obtain⟨hY,p4,vm,s5⟩:=EH (P:=P) (t:=T) (u:=T) (ty:=I) qE L.yM az (k:=i*z) hd hm (by omega) (dLen:=len+1 - i) (dc:=cap' - i) (sLen:=1) (sc:=eY) (cnt:=1)
   (by simp only[aF3]; split<;>omega) (by omega) (by rw[aFj]; exact Kf) F5 (by omega)
  have nQ:max (max cap (len+1)*z) (i*z+1*z)=max cap (len+1)*z:=by omega
  rw[nQ,anD mD Cv (by omega)] at vm s5;have jd:w.frozen? ⟨aO.r,aO.s+0,none⟩=false:=by
   simp only[World.frozen?,KC];rcases Uc with aG | aG
   ·subst aG; simp
   ·simp; intro aq; omega
  have xM:w.frozen? ⟨aO.r,Oc.size,none⟩=false:=by
   simp only[World.frozen?,KC];rcases Uc with aG | aG
   ·subst aG; simp
   ·simp; intro aq; omega
  refine (L.shift m.r m.s len cap' i aO.r (aO.s+0) eY _ _ w jQ hY ek qZ Oc.size arr.size Cv fv oY Kh (by simp[World.shape?,KC]) (by simp[World.shape?,aC]) (by omega) jd xM p3 p4).mono ?_;rintro x w2 ⟨rfl,rfl⟩;obtain⟨μ',h1,ag,aq⟩:=ab7 (h:=h) s5 ((EP.trans BM).trans vm) (b:=b) (row:=ma z cs vs i len) (ns:=max cap (len+1)*z) (n:=len+1) (nc:=max cap (len+1)) (z:=z) (v:=.slice (some ⟨m.r,m.s+0,none⟩) (len+1) cap') (by
   rw[ez,ez];funext y;simp only[ck];split<;>rfl) rfl rfl (by omega) o4 (.av z b 0 (len+1) (max cap (len+1)) (max cap (len+1)*z) cap' _ m (by rw[ez,kz]) hm (by omega) (by omega) (.inr ⟨by omega,by omega,by simpa using zI⟩))
  exact⟨_,μ',rfl,h1,ag,aq⟩
 ·obtain rfl:cap=len:=by omega
  obtain rfl:cap'=cap:=by omega
  obtain⟨vQ,zv,JX,l8,kj⟩:=ado il;have qn:vQ.size=z:=by simp[c5,JX] at az; exact az
  have my:vQ.bytes=by_:=by simp[jp,JX] at eQ; exact eQ
  have cQ:contents h z (.av z b 0 i cap' (cap'*z))=some ((cs.drop 0).take (i*z),i) :=by simp[contents,ai]
  obtain⟨cH,_,gm,iN,x0⟩:=vj (P:=P) rel cQ (aZ.av z b 0 i cap' (cap'*z) cap' cs m ai hm (by omega) (by omega) (.inr ⟨by omega,aCL _,by simpa using zI⟩));have CL:=x0 i (aCL _) w.drew (fun _=>rfl);rw[aCI (by rw[iN.1,cH]; exact aCL _)] at CL;rw[aDH] at iN cH;have U5:(cap'+1)*vQ.bytes<=c4:=by rw[my]; exact eb
  have jW:i+(cap'+1 - i)=cap'+1:=by omega
  have ayB:(cap'+1 - i)*vQ.bytes<=(cap'+1)*vQ.bytes:=aCN _ (by omega);have jb:=Lib.run_append_grow_zeros w T I T e vQ zv .i64 .i64 L.yM L.avx JX l8 (some ⟨m.r,m.s+0,none⟩) i cap' gm (by rw[qn]; exact CL) (cap'+1 - i) (by omega) (by omega) (by omega) (by omega) (by unfold c4 at U5; omega)
   (by rw[jW]; have:=growslice_fits (old:=cap') (need:=cap'+1) (by omega) U5; omega)
  rw[jW] at jb;obtain⟨rV,Tq⟩:∃ rV,rV=grownCap w (cap'+1) cap' e:=⟨_,rfl⟩
  have Tr:cap'+1<=rV:=by rw[Tq]; exact grownCap_ge w _ _ _
  rw[<-Tq] at jb;obtain⟨ROW,Fj⟩:∃ ROW:Array Value,ROW=gm.toArray++Builtin.zeroCells zv.cells (cap'+1 - i)++Builtin.zeroCells zv.cells (rV - (cap'+1)) :=⟨_,rfl⟩
  rw[<-Fj] at jb;have ayv:(cap'+1)*z<=ROW.size:=by
   have a2:i*z+(cap'+1 - i)*z=(cap'+1)*z:=by rw[<-aDg]; congr 1
   rw[Fj];simp only[aFJ,aFK,Builtin.zeroCells];simp[kj,iN.1];omega
  have c9:(cs.take (i*z)).length=i*z:=by rw[aCX]; omega
  obtain⟨EP,uC⟩:=rel.push (w':=w.drew.alloc (.cells ROW e)) (cs.take (i*z)) ROW e rfl rfl rfl rfl (by omega) (fun j c am=>by
   obtain⟨v,aW,bg,bj⟩:=iN.2 j c am;refine⟨v,?_,bg,bj⟩;have aP:j<gm.length:=(aCJ.1 aW).1;rw[Fj,aE9,aDZ (by simpa using aP)];simpa using aW)
  rw[c9] at EP uC;have FA:b≠h.n:=by omega
  have ayF:=rel.r4 xW;have TR:bv≠h.n:=by omega
  have pe:(ck μ h.n (some ⟨w.heap.size,0,ROW.size⟩)) h.n=some ⟨w.heap.size,0,ROW.size⟩:=kz _ _ _;have al9:(ck μ h.n (some ⟨w.heap.size,0,ROW.size⟩)) bv=some aO:=by rw[cB _ _ _ _ TR]; exact xW
  have al4:(ck μ h.n (some ⟨w.heap.size,0,ROW.size⟩)) b=some m:=by rw[cB _ _ _ _ FA]; exact hm
  have akR:(h.push (.cells (i*z) (cs.take (i*z)))).f h.n=.cells (i*z) (cs.take (i*z)) :=by rw[eS,kz]
  have akT:(h.push (.cells (i*z) (cs.take (i*z)))).f bv=.cells z vs:=by rw[eS,cB _ _ _ _ TR]; exact jc
  obtain⟨GD,F4,Ke⟩:=Gw (P:=P) uC (o:=0) (n:=z) akT al9 (by omega);rw[l7] at F4;obtain⟨jQ,p3,BM,qE⟩:=EH (P:=P) (t:=T) (u:=T) (ty:=I) uC L.yM az (k:=i*z) akR pe (aCL _) (dLen:=cap'+1 - i) (dc:=rV - i) (sLen:=1) (sc:=eY) (cnt:=1)
   (by simp only[aF3]; split<;>omega) (by omega) (by rw[aFj]; exact Ke) F4 (by simp only; omega)
  have qm:max (i*z) (i*z+1*z)=(i+1)*z:=by omega
  rw[qm] at BM qE;obtain⟨ajo,ab1⟩:=Mq qE (w':=jQ.drew) (Oj jQ);have akS:((h.push (.cells (i*z) (cs.take (i*z)))).set h.n (.cells ((i+1)*z) (bO (cs.take (i*z)) (i*z) vs))).f h.n=.cells ((i+1)*z) (bO (cs.take (i*z)) (i*z) vs) :=by rw[ez,kz]
  have TN:((h.push (.cells (i*z) (cs.take (i*z)))).set h.n (.cells ((i+1)*z) (bO (cs.take (i*z)) (i*z) vs))).f b=.cells (cap'*z) cs:=by rw[ez,cB _ _ _ _ FA,eS,cB _ _ _ _ FA]; exact ai
  obtain⟨ls,F5,Kf⟩:=Gw (P:=P) ab1 (o:=i*z) (n:=(cap' - i)*z) TN al4 (by omega);obtain⟨hY,p4,vm,s5⟩:=EH (P:=P) (t:=T) (u:=T) (ty:=I) ab1 L.yM az (k:=(i+1)*z) akS pe (aCL _) (dLen:=cap' - i) (dc:=rV - (i+1)) (sLen:=cap' - i) (sc:=cap' - i) (cnt:=cap' - i)
   (by simp only[aF3]; split<;>omega) kb Kf F5 (by simp only; omega)
  have nQ:max ((i+1)*z) ((i+1)*z+(cap' - i)*z)=(cap'+1)*z:=by omega
  rw[nQ,anz mD Cv (by omega)] at vm s5;simp only[aDT] at p3 p4;have amf:max cap' (cap'+1)=cap'+1:=by omega
  rw[amf];refine (L.grow m.r (m.s+0) cap' cap' i aO.r (aO.s+0) eY w.heap.size rV _ _ w _ jQ hY Cv (aCL _) (by omega) Tr oY ?_ p3 p4).mono ?_
  ·have:(cap' : Int)+1 - (i:Int)=((cap'+1 - i:Nat) :Int) :=by omega
   rw[this];exact jb
  rintro x w2 ⟨rfl,rfl⟩;have hk:=s5.kill (b:=b) (sz:=cap'*z) (cs:=cs) (h':=(h.set b .dead).push (.cells ((cap'+1)*z) (ma z cs vs i cap'))) (by rw[ez,cB _ _ _ _ FA]; exact TN) (by rw[fw,fw,ga]; omega) (by
   rw[eS,ez,fw,ez,ez,eS];funext y;simp only[ck];by_cases h1:y=h.n
   ·rw[if_pos h1,if_neg (by omega),if_pos h1]
   ·rw[if_neg h1];split
    ·rfl
    ·simp[h1]) (by rw[ga,fw,fw,fw,ga])
  refine⟨_,_,rfl,(((EP.trans BM).trans ajo).trans vm).trans hk.1,hk.2,?_⟩;have:=aZ.av (w:=w2) (R:=R) (h:=(h.set b .dead).push (.cells ((cap'+1)*z) (ma z cs vs i cap'))) (μ:=ck μ h.n (some ⟨w.heap.size,0,ROW.size⟩)) z h.n 0 (cap'+1) (cap'+1) ((cap'+1)*z) rV (ma z cs vs i cap') ⟨w.heap.size,0,ROW.size⟩ (by rw[eS,fw,kz]) (by simp) (aCL _) (by omega) (.inr ⟨by omega,Tr,by
   simp only;have a2:i*z+(cap'+1 - i)*z=(cap'+1)*z:=by rw[<-aDg]; congr 1
   have b7:(cap'+1)*z+(rV - (cap'+1))*z=rV*z:=by rw[<-aDg]; congr 1; omega
   rw[Fj];simp only[aFJ,aFK,Builtin.zeroCells];simp[kj,iN.1];omega⟩)
  simpa using this
theorem La {f T I e z by_:Nat} (L:Bf P f T I e z) (dH:i7 P T=some e) (az:c5 P e=some z) (eQ:jp P e=some by_) (qe:0<z) (xE:0<by_) (il:td P e=some z)
  {bv:Nat} {vs:List ad} (jc:h.f bv=.cells z vs) (eb:by_<=c4) :
  rT P G f [.aK,.int .i64 0,.av z bv 0 1 1 z] h (.av z h.n 0 1 1 z) (h.push (.cells z vs)) :=by
 intro R B w μ eT rel E2 ar ay;obtain⟨oI⟩:=eT
 match oI,ar with
 | [v0,ft,ei],_=>
 have iZ:=ay 0 _ v0 rfl rfl;have l7:=ay 1 _ ft rfl rfl;have qp:=ay 2 _ ei rfl rfl;have KM:=qp;cases l7;have amW:=iZ;cases iZ;have Kk:AH P T:=⟨_,L.yM,fun k hk=>by cases hk⟩
 cases qp with
 | g4 _ _ _ _ _ _ _ _ _ _ aA=>
  exfalso;rcases aA with aA | ⟨hE,cs',aA,aP⟩
  ·rw[jc] at aA; cases aA
  ·rw[jc] at aA; cases aA; omega
 | av _ _ _ _ _ _ eY avM aO akZ xW qb CN kY=>
 have Ci:=rel.blk bv aO xW;rw[jc] at Ci;obtain⟨mD,_⟩:=Ci;have aD:r2 P h T .aK (.av z bv 0 1 1 z)=some (.av z h.n 0 1 1 z,h.push (.cells z vs)) :=by
  have l7:(vs.drop 0).take (1*z)=vs:=by rw[aDH,aFj,aCI (by omega)]
  unfold r2;rw[dH];simp only[az,eQ,contents,jc,and_self,if_true,l7];unfold u2;rw[if_neg (by omega),if_neg (by rw[il]; simp; omega)];simp only[aFj,eb,if_true]
 obtain⟨v,cb,hJ,iY,zN,KA,uf⟩:=H9 (P:=P) (ty:=T) (u:=T) rel Kk aD amW KM;refine (L.fin none 0 0 eY aO.r (aO.s+0) v w cb (aCL _) (by omega) (fun _=>⟨rfl,rfl⟩) iY).mono ?_;rintro x w2 ⟨rfl,rfl⟩;exact⟨v,hJ,rfl,zN,KA,uf⟩
theorem VB {f T I e z by_:Nat} (L:Bf P f T I e z) (dH:i7 P T=some e) (az:c5 P e=some z) (eQ:jp P e=some by_) (qe:0<z) (xE:0<by_) (il:td P e=some z)
  (args:List ad) (h:bh) (r:ad) (h' : bh) (al:Aw z by_ args h=some (r,h')) :rT P G f args h r h':=by
 unfold Aw at al;split at al
 ·rename_i s x y;split at al
  ·rename_i i hq bv mJ cf dF jG i0;have am5:x=.int .i64 i:=by
    unfold Od at i0;split at i0
    ·split at i0
     ·cases i0; rfl
     ·cases i0
    ·cases i0
   subst am5;split at al
   ·rename_i ko vs jc;split at al
    ·rename_i ak;obtain⟨rfl,rfl,rfl,rfl,rfl,rfl,aG⟩:=ak;obtain⟨k,rfl⟩:=aDv aG;rw[aDf] at al;unfold VC at al;cases s<;>simp only at al<;>try (cases al; done)
     case aK=>
      split at al
      ·rename_i ak;obtain⟨rfl,aC⟩:=ak;cases al;exact La L dH az eQ qe xE il jc aC
      ·cases al
     case av iB b off len cap sz=>
      cases ai:h.f b<;>rw[ai] at al<;>(try simp only at al)<;>try (cases al; done)
      split at al
      ·rename_i ak;obtain⟨rfl,rfl,rfl,rfl,b2,aB,pb,aC⟩:=ak;cases al;exact Lb L dH az eQ qe xE il ai jc b2 aB pb aC
      ·cases al
    ·cases al
   ·cases al
  ·cases al
 ·cases al
end

end Go.ct
