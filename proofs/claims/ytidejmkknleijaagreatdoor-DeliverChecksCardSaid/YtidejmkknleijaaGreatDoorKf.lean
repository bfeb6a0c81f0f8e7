/-
  The canonical machine: what is carried out on code without types is so.
-/
import Derived.Test.YtidejmkknleijaaGreatDoorKe
import Derived.OpenShut
import Derived.Shelf.SlSortCmp.InsertionK
import Derived.Sort.LotA
import Derived.Lib.AppendZerosOnto
import Derived.ProofKit
import Derived.Test.YtidejmkknleijaaGreatDoorRows
set_option linter.unusedVariables false
set_option linter.unusedSimpArgs false
set_option linter.unnecessarySimpa false
namespace Go.ca
open Go
structure jo (h:aW) (l:ap) :Prop where
 n:h.n=l.length
 f:∀ b,h.f b=(bM l).f b
theorem jo.nil:jo aW.empty [] :=⟨rfl,fun _=>rfl⟩
theorem jo.some {h:aW} {l:ap} (r:jo h l) {b:Nat} {c:aU} (ah:h.f b=c) (aD:c≠.none) :l[b]? = some c:=by
 rw[r.f,lg] at ah;split at ah
 ·rename_i c' ad; rw[ad,ah]
 ·exact absurd ah.symm aD
theorem jo.push {h:aW} {l:ap} (r:jo h l) (c:aU) :jo (h.push c) (l++[c]) :=
 ⟨by rw[fv,r.n]; simp,fun b=>by rw[eH,<-n3,eH,r.n,J5]; unfold bH; (split<;>first | rfl | exact r.f b)⟩
theorem jo.set {h:aW} {l:ap} (r:jo h l) {b:Nat} {yV:aU} (ag:l[b]? = Option.some yV) (c:aU) :jo (h.set b c) (l.set b c) :=
 ⟨by rw[fx,r.n]; simp,fun bc=>by rw[eI,<-qd _ (b9 ag),eI]; unfold bH; (split<;>first | rfl | exact r.f bc)⟩
section
variable {P:Program} {G:Nat->U} {h h' : aW} {l:ap}
theorem jo.reach (r:jo h l) (p:U) :reach h p=gW l p:=by
 rw[<-IW];cases p<;>try rfl
 simp only[ca.reach,r.f]
theorem jo.contents (r:jo h l) (z:Nat) (x:U) :contents h z x=dd l z x:=by
 rw[<-y6];cases x<;>try rfl
 simp only[ca.contents,r.f]
theorem jo.mapOf (r:jo h l) (x:U) :mapOf h x=tO l x:=by
 cases x<;>try rfl
 rename_i b;simp only[ca.mapOf,tO,r.f,lg];cases l[b]? with
 | none=>rfl
 | some c=>cases c<;>rfl
theorem jo.bytes (r:jo h l) (x:U) :sQ h x=pe l x:=by
 cases x<;>simp only[sQ,pe,r.contents]<;>rfl
theorem fR.rep (r:jo h l) {c c' : U} (ay:fR h c c') :fR (bM l) c c':=by
 induction ay with
 | same c ah=>exact .same c ah
 | aH cs cs' am aq aQ=>exact .aH cs cs' am aQ
 | bu cs cs' am aq aQ=>exact .bu cs cs' am aQ
 | ar z b off len cap sz cs es ag am aw dj aq aQ=>exact .ar z b off len cap sz cs es (by rw[<-r.f]; exact ag) am aw dj aQ
 | so z b off cap sz=>exact .so z b off cap sz
 | ptr b off sz cs cs' ag am aq aQ=>exact .ptr b off sz cs cs' (by rw[<-r.f]; exact ag) am aQ
theorem aU.beq_eq {a b:aU} (h:aU.beq a b=true) :a=b:=by
 cases a<;>cases b<;>simp[aU.beq] at h
 ·rfl
 ·rfl
 ·obtain⟨ad,af⟩:=h;rw[ad,sK af]
inductive EZ (P:Program) (G:Nat->U) :List (Nat × (aW->Bool))->iI->Prop
 | nil:EZ P G [] []
 | cons {i p q r dT}:(∀ h l,jo h l->p h=true->q l)->EZ P G r dT->EZ P G ((i,p) ::r) ((i,q) ::dT)
end
def rep (n:Nat) (c:U) :List U:=List.replicate n c
abbrev nQ (i d x:Nat) :ei:=⟨i,some d,none,.hj (.k8 (.tmp x)),[],false⟩
abbrev Jh (i d:Nat) (m:dK) :ei:=⟨i,some d,none,.hj m,[],false⟩
@[simp] theorem ai9 (n:Nat) (c:U) :(rep n c).length=n:=by simp[rep]
def u {w:Nat} (a:BitVec w) :Int:=(a.toNat:Int)
@[simp] theorem la {w:Nat} (a:BitVec w) :BitVec.ofInt w (u a)=a:=by
 unfold u;rw[ak8,amY,BitVec.setWidth_eq]
@[simp] theorem uz {w:Nat} (a b:BitVec w) :(u a=u b)<->a=b:=⟨fun h=>akk (by unfold u at h; exact Int.ofNat_inj.1 h),fun h=>by rw[h]⟩
@[simp] theorem ajO {w:Nat} (a b:BitVec w) :(u a<u b)<->a<b:=by unfold u; rw[Int.ofNat_lt]; rfl
@[simp] theorem ajN {w:Nat} (a b:BitVec w) :(u a<=u b)<->a<=b:=by unfold u; rw[Int.ofNat_le]; rfl
@[simp] theorem ajP {w:Nat} (a:BitVec w) :0<=u a:=ama _
@[simp] theorem ajQ {w:Nat} (a:BitVec w) :(u a).toNat=a.toNat:=akr _
theorem ajM {w:Nat} (a:BitVec w) :u a<2 ^ w:=by
 have:=a.isLt;unfold u
 exact_mod_cast this
@[simp] theorem aiY {w:Nat} (a b:Int) :BitVec.ofInt w (a - b)=BitVec.ofInt w a - BitVec.ofInt w b:=by
 rw[Int.sub_eq_add_neg,BitVec.ofInt_add,BitVec.ofInt_neg,BitVec.sub_eq_add_neg]
attribute [simp] BitVec.ofInt_add BitVec.ofInt_mul
theorem oS {w:Nat} (v:Nat) (a:BitVec w) :BitVec.ofInt v (u a)=a.setWidth v:=by
 unfold u;rw[ak8,amY]
section
abbrev bz (a:BitVec 8) :U:=.int .u8 (u a)
@[simp] theorem Bs (n:Int) :IntKind.u8.wrap n=u (BitVec.ofInt 8 n) :=by
 have aS:(2 ^ IntKind.u8.bits:Int)=256:=by decide
 have eR:IntKind.u8.signed=false:=rfl;simp only[IntKind.wrap,aS,eR,alJ,ala,if_false,u,amb];have:(2 ^ 8:Nat)=256:=by decide
 rw[this];omega
@[simp] theorem ajZ (a:Int) :p4 .xor (.int .u8 a)=some (.int .u8 (u (~~~(BitVec.ofInt 8 a)))) :=by
 show some (U.int .u8 (IntKind.u8.wrap (u (BitVec.ofInt 8 (255:Int) ^^^ BitVec.ofInt 8 a))))=_;rw[Bs,la];have:BitVec.ofInt 8 (255:Int)=BitVec.allOnes 8:=by decide
 rw[this,amy]
theorem S0 (a:BitVec 8) (k' : IntKind) (n:Nat) :cj .shl .u8 (u a) k' (n:Int)=some (.int .u8 (u (a <<< n))) :=by
 have aF:¬((n:Int)<0) :=by omega
 show (if (n:Int)<0 then none else some (U.int .u8 (IntKind.u8.wrap ((a.toNat:Int)*2 ^ min (n:Int).toNat 8))))=_;rw[if_neg aF];congr 2;rw[Bs,akr];unfold u;congr 1;have:((a.toNat:Int)*2 ^ min n 8)=((a.toNat*2 ^ min n 8:Nat) :Int) :=by rw[Int.natCast_mul,alO]; rfl
 rw[this,ak8,aky,alp,alm];rcases akX n 8 with h | h
 ·rw[ak7 (ali h)]
 ·rw[alG h];have ad:a.toNat*2 ^ 8 % 2 ^ 8=0:=amG _ _;obtain⟨m,rfl⟩:=al6 h;rw[ad,al0,amC,amD]
theorem S3 (a:BitVec 8) (k' : IntKind) (n:Nat) :cj .shr .u8 (u a) k' (n:Int)=some (.int .u8 (u (a >>> n))) :=by
 have aF:¬((n:Int)<0) :=by omega
 show (if (n:Int)<0 then none else some (U.int .u8 ((a.toNat:Int).fdiv (2 ^ min (n:Int).toNat 8))))=_;rw[if_neg aF];congr 2;rw[akr];unfold u;have:((2:Int) ^ min n 8)=((2 ^ min n 8:Nat) :Int) :=by rw[alO]; rfl
 rw[this,alF _ (ama _),<-amH,akJ,akw];congr 1;rcases akX n 8 with h | h
 ·rw[ak7 (ali h)]
 ·rw[alG h,alq a.isLt,alq (alv a.isLt (amm (by omega) h))]
@[simp] theorem aeM (a:BitVec 8) (k' : IntKind) (n:Int) (h:0<=n) :cj .shl .u8 (u a) k' n=some (.int .u8 (u (a <<< n.toNat))) :=by
 obtain⟨m,rfl⟩:=akF h;exact S0 a k' m
@[simp] theorem aeQ (a:BitVec 8) (k' : IntKind) (n:Int) (h:0<=n) :cj .shr .u8 (u a) k' n=some (.int .u8 (u (a >>> n.toNat))) :=by
 obtain⟨m,rfl⟩:=akF h;exact S3 a k' m
@[simp] theorem aeI (a b:BitVec 8) (h:b≠0#8) :cj .rem .u8 (u a) .u8 (u b)=some (.int .u8 (u (a % b))) :=by
 have ag:(b.toNat:Int)≠0:=fun e=>h (akk (by simpa using e))
 show (if IntKind.u8=IntKind.u8/\(b.toNat:Int)≠0 then some (U.int .u8 ((a.toNat:Int).tmod b.toNat)) else none)=_;rw[if_pos ⟨rfl,ag⟩];unfold u;rw[ak9];rfl
@[simp] theorem aeW (a b:Int) :cj .xor .u8 a .u8 b=some (.int .u8 (u (BitVec.ofInt 8 a ^^^ BitVec.ofInt 8 b))) :=by
 show some (U.int .u8 (IntKind.u8.wrap (u (BitVec.ofInt 8 a ^^^ BitVec.ofInt 8 b))))=_;rw[Bs,la]
@[simp] theorem aeG (a b:Int) :cj .or .u8 a .u8 b=some (.int .u8 (u (BitVec.ofInt 8 a ||| BitVec.ofInt 8 b))) :=by
 show some (U.int .u8 (IntKind.u8.wrap (u (BitVec.ofInt 8 a ||| BitVec.ofInt 8 b))))=_;rw[Bs,la]
@[simp] theorem aeo (a b:Int) :cj .and .u8 a .u8 b=some (.int .u8 (u (BitVec.ofInt 8 a &&& BitVec.ofInt 8 b))) :=by
 show some (U.int .u8 (IntKind.u8.wrap (u (BitVec.ofInt 8 a &&& BitVec.ofInt 8 b))))=_;rw[Bs,la]
end

section
abbrev B5 (a:BitVec 16) :U:=.int .u16 (u a)
@[simp] theorem Br (n:Int) :IntKind.u16.wrap n=u (BitVec.ofInt 16 n) :=by
 have aS:(2 ^ IntKind.u16.bits:Int)=65536:=by decide
 have eR:IntKind.u16.signed=false:=rfl;simp only[IntKind.wrap,aS,eR,alJ,ala,if_false,u,amb];have:(2 ^ 16:Nat)=65536:=by decide
 rw[this];omega
@[simp] theorem ajW (a:Int) :p4 .xor (.int .u16 a)=some (.int .u16 (u (~~~(BitVec.ofInt 16 a)))) :=by
 show some (U.int .u16 (IntKind.u16.wrap (u (BitVec.ofInt 16 (65535:Int) ^^^ BitVec.ofInt 16 a))))=_;rw[Br,la];have:BitVec.ofInt 16 (65535:Int)=BitVec.allOnes 16:=by decide
 rw[this,amy]
theorem SY (a:BitVec 16) (k' : IntKind) (n:Nat) :cj .shl .u16 (u a) k' (n:Int)=some (.int .u16 (u (a <<< n))) :=by
 have aF:¬((n:Int)<0) :=by omega
 show (if (n:Int)<0 then none else some (U.int .u16 (IntKind.u16.wrap ((a.toNat:Int)*2 ^ min (n:Int).toNat 16))))=_;rw[if_neg aF];congr 2;rw[Br,akr];unfold u;congr 1;have:((a.toNat:Int)*2 ^ min n 16)=((a.toNat*2 ^ min n 16:Nat) :Int) :=by rw[Int.natCast_mul,alO]; rfl
 rw[this,ak8,aky,alp,alm];rcases akX n 16 with h | h
 ·rw[ak7 (ali h)]
 ·rw[alG h];have ad:a.toNat*2 ^ 16 % 2 ^ 16=0:=amG _ _;obtain⟨m,rfl⟩:=al6 h;rw[ad,al0,amC,amD]
theorem S1 (a:BitVec 16) (k' : IntKind) (n:Nat) :cj .shr .u16 (u a) k' (n:Int)=some (.int .u16 (u (a >>> n))) :=by
 have aF:¬((n:Int)<0) :=by omega
 show (if (n:Int)<0 then none else some (U.int .u16 ((a.toNat:Int).fdiv (2 ^ min (n:Int).toNat 16))))=_;rw[if_neg aF];congr 2;rw[akr];unfold u;have:((2:Int) ^ min n 16)=((2 ^ min n 16:Nat) :Int) :=by rw[alO]; rfl
 rw[this,alF _ (ama _),<-amH,akJ,akw];congr 1;rcases akX n 16 with h | h
 ·rw[ak7 (ali h)]
 ·rw[alG h,alq a.isLt,alq (alv a.isLt (amm (by omega) h))]
@[simp] theorem aeJ (a:BitVec 16) (k' : IntKind) (n:Int) (h:0<=n) :cj .shl .u16 (u a) k' n=some (.int .u16 (u (a <<< n.toNat))) :=by
 obtain⟨m,rfl⟩:=akF h;exact SY a k' m
@[simp] theorem aeN (a:BitVec 16) (k' : IntKind) (n:Int) (h:0<=n) :cj .shr .u16 (u a) k' n=some (.int .u16 (u (a >>> n.toNat))) :=by
 obtain⟨m,rfl⟩:=akF h;exact S1 a k' m
@[simp] theorem aeH (a b:BitVec 16) (h:b≠0#16) :cj .rem .u16 (u a) .u16 (u b)=some (.int .u16 (u (a % b))) :=by
 have ag:(b.toNat:Int)≠0:=fun e=>h (akk (by simpa using e))
 show (if IntKind.u16=IntKind.u16/\(b.toNat:Int)≠0 then some (U.int .u16 ((a.toNat:Int).tmod b.toNat)) else none)=_;rw[if_pos ⟨rfl,ag⟩];unfold u;rw[ak9];rfl
@[simp] theorem aeT (a b:Int) :cj .xor .u16 a .u16 b=some (.int .u16 (u (BitVec.ofInt 16 a ^^^ BitVec.ofInt 16 b))) :=by
 show some (U.int .u16 (IntKind.u16.wrap (u (BitVec.ofInt 16 a ^^^ BitVec.ofInt 16 b))))=_;rw[Br,la]
@[simp] theorem aeD (a b:Int) :cj .or .u16 a .u16 b=some (.int .u16 (u (BitVec.ofInt 16 a ||| BitVec.ofInt 16 b))) :=by
 show some (U.int .u16 (IntKind.u16.wrap (u (BitVec.ofInt 16 a ||| BitVec.ofInt 16 b))))=_;rw[Br,la]
@[simp] theorem aem (a b:Int) :cj .and .u16 a .u16 b=some (.int .u16 (u (BitVec.ofInt 16 a &&& BitVec.ofInt 16 b))) :=by
 show some (U.int .u16 (IntKind.u16.wrap (u (BitVec.ofInt 16 a &&& BitVec.ofInt 16 b))))=_;rw[Br,la]
end

section
abbrev bp (a:BitVec 32) :U:=.int .u32 (u a)
@[simp] theorem yA (n:Int) :IntKind.u32.wrap n=u (BitVec.ofInt 32 n) :=by
 have aS:(2 ^ IntKind.u32.bits:Int)=4294967296:=by decide
 have eR:IntKind.u32.signed=false:=rfl;simp only[IntKind.wrap,aS,eR,alJ,ala,if_false,u,amb];have:(2 ^ 32:Nat)=4294967296:=by decide
 rw[this];omega
@[simp] theorem ajX (a:Int) :p4 .xor (.int .u32 a)=some (.int .u32 (u (~~~(BitVec.ofInt 32 a)))) :=by
 show some (U.int .u32 (IntKind.u32.wrap (u (BitVec.ofInt 32 (4294967295:Int) ^^^ BitVec.ofInt 32 a))))=_;rw[yA,la];have:BitVec.ofInt 32 (4294967295:Int)=BitVec.allOnes 32:=by decide
 rw[this,amy]
theorem SZ (a:BitVec 32) (k' : IntKind) (n:Nat) :cj .shl .u32 (u a) k' (n:Int)=some (.int .u32 (u (a <<< n))) :=by
 have aF:¬((n:Int)<0) :=by omega
 show (if (n:Int)<0 then none else some (U.int .u32 (IntKind.u32.wrap ((a.toNat:Int)*2 ^ min (n:Int).toNat 32))))=_;rw[if_neg aF];congr 2;rw[yA,akr];unfold u;congr 1;have:((a.toNat:Int)*2 ^ min n 32)=((a.toNat*2 ^ min n 32:Nat) :Int) :=by rw[Int.natCast_mul,alO]; rfl
 rw[this,ak8,aky,alp,alm];rcases akX n 32 with h | h
 ·rw[ak7 (ali h)]
 ·rw[alG h];have ad:a.toNat*2 ^ 32 % 2 ^ 32=0:=amG _ _;obtain⟨m,rfl⟩:=al6 h;rw[ad,al0,amC,amD]
theorem S2 (a:BitVec 32) (k' : IntKind) (n:Nat) :cj .shr .u32 (u a) k' (n:Int)=some (.int .u32 (u (a >>> n))) :=by
 have aF:¬((n:Int)<0) :=by omega
 show (if (n:Int)<0 then none else some (U.int .u32 ((a.toNat:Int).fdiv (2 ^ min (n:Int).toNat 32))))=_;rw[if_neg aF];congr 2;rw[akr];unfold u;have:((2:Int) ^ min n 32)=((2 ^ min n 32:Nat) :Int) :=by rw[alO]; rfl
 rw[this,alF _ (ama _),<-amH,akJ,akw];congr 1;rcases akX n 32 with h | h
 ·rw[ak7 (ali h)]
 ·rw[alG h,alq a.isLt,alq (alv a.isLt (amm (by omega) h))]
@[simp] theorem aeK (a:BitVec 32) (k' : IntKind) (n:Int) (h:0<=n) :cj .shl .u32 (u a) k' n=some (.int .u32 (u (a <<< n.toNat))) :=by
 obtain⟨m,rfl⟩:=akF h;exact SZ a k' m
@[simp] theorem aeO (a:BitVec 32) (k' : IntKind) (n:Int) (h:0<=n) :cj .shr .u32 (u a) k' n=some (.int .u32 (u (a >>> n.toNat))) :=by
 obtain⟨m,rfl⟩:=akF h;exact S2 a k' m
@[simp] theorem SW (a b:BitVec 32) (h:b≠0#32) :cj .rem .u32 (u a) .u32 (u b)=some (.int .u32 (u (a % b))) :=by
 have ag:(b.toNat:Int)≠0:=fun e=>h (akk (by simpa using e))
 show (if IntKind.u32=IntKind.u32/\(b.toNat:Int)≠0 then some (U.int .u32 ((a.toNat:Int).tmod b.toNat)) else none)=_;rw[if_pos ⟨rfl,ag⟩];unfold u;rw[ak9];rfl
@[simp] theorem aeU (a b:Int) :cj .xor .u32 a .u32 b=some (.int .u32 (u (BitVec.ofInt 32 a ^^^ BitVec.ofInt 32 b))) :=by
 show some (U.int .u32 (IntKind.u32.wrap (u (BitVec.ofInt 32 a ^^^ BitVec.ofInt 32 b))))=_;rw[yA,la]
@[simp] theorem aeE (a b:Int) :cj .or .u32 a .u32 b=some (.int .u32 (u (BitVec.ofInt 32 a ||| BitVec.ofInt 32 b))) :=by
 show some (U.int .u32 (IntKind.u32.wrap (u (BitVec.ofInt 32 a ||| BitVec.ofInt 32 b))))=_;rw[yA,la]
@[simp] theorem aen (a b:Int) :cj .and .u32 a .u32 b=some (.int .u32 (u (BitVec.ofInt 32 a &&& BitVec.ofInt 32 b))) :=by
 show some (U.int .u32 (IntKind.u32.wrap (u (BitVec.ofInt 32 a &&& BitVec.ofInt 32 b))))=_;rw[yA,la]
end

section
abbrev dI (a:BitVec 64) :U:=.int .u64 (u a)
@[simp] theorem ws (n:Int) :IntKind.u64.wrap n=u (BitVec.ofInt 64 n) :=by
 have aS:(2 ^ IntKind.u64.bits:Int)=18446744073709551616:=by decide
 have eR:IntKind.u64.signed=false:=rfl;simp only[IntKind.wrap,aS,eR,alJ,ala,if_false,u,amb];have:(2 ^ 64:Nat)=18446744073709551616:=by decide
 rw[this];omega
@[simp] theorem ajY (a:Int) :p4 .xor (.int .u64 a)=some (.int .u64 (u (~~~(BitVec.ofInt 64 a)))) :=by
 show some (U.int .u64 (IntKind.u64.wrap (u (BitVec.ofInt 64 (18446744073709551615:Int) ^^^ BitVec.ofInt 64 a))))=_;rw[ws,la];have:BitVec.ofInt 64 (18446744073709551615:Int)=BitVec.allOnes 64:=by decide
 rw[this,amy]
theorem KO (a:BitVec 64) (k' : IntKind) (n:Nat) :cj .shl .u64 (u a) k' (n:Int)=some (.int .u64 (u (a <<< n))) :=by
 have aF:¬((n:Int)<0) :=by omega
 show (if (n:Int)<0 then none else some (U.int .u64 (IntKind.u64.wrap ((a.toNat:Int)*2 ^ min (n:Int).toNat 64))))=_;rw[if_neg aF];congr 2;rw[ws,akr];unfold u;congr 1;have:((a.toNat:Int)*2 ^ min n 64)=((a.toNat*2 ^ min n 64:Nat) :Int) :=by rw[Int.natCast_mul,alO]; rfl
 rw[this,ak8,aky,alp,alm];rcases akX n 64 with h | h
 ·rw[ak7 (ali h)]
 ·rw[alG h];have ad:a.toNat*2 ^ 64 % 2 ^ 64=0:=amG _ _;obtain⟨m,rfl⟩:=al6 h;rw[ad,al0,amC,amD]
theorem sO (a:BitVec 64) (k' : IntKind) (n:Nat) :cj .shr .u64 (u a) k' (n:Int)=some (.int .u64 (u (a >>> n))) :=by
 have aF:¬((n:Int)<0) :=by omega
 show (if (n:Int)<0 then none else some (U.int .u64 ((a.toNat:Int).fdiv (2 ^ min (n:Int).toNat 64))))=_;rw[if_neg aF];congr 2;rw[akr];unfold u;have:((2:Int) ^ min n 64)=((2 ^ min n 64:Nat) :Int) :=by rw[alO]; rfl
 rw[this,alF _ (ama _),<-amH,akJ,akw];congr 1;rcases akX n 64 with h | h
 ·rw[ak7 (ali h)]
 ·rw[alG h,alq a.isLt,alq (alv a.isLt (amm (by omega) h))]
@[simp] theorem aeL (a:BitVec 64) (k' : IntKind) (n:Int) (h:0<=n) :cj .shl .u64 (u a) k' n=some (.int .u64 (u (a <<< n.toNat))) :=by
 obtain⟨m,rfl⟩:=akF h;exact KO a k' m
@[simp] theorem aeP (a:BitVec 64) (k' : IntKind) (n:Int) (h:0<=n) :cj .shr .u64 (u a) k' n=some (.int .u64 (u (a >>> n.toNat))) :=by
 obtain⟨m,rfl⟩:=akF h;exact sO a k' m
@[simp] theorem wG (a b:BitVec 64) (h:b≠0#64) :cj .rem .u64 (u a) .u64 (u b)=some (.int .u64 (u (a % b))) :=by
 have ag:(b.toNat:Int)≠0:=fun e=>h (akk (by simpa using e))
 show (if IntKind.u64=IntKind.u64/\(b.toNat:Int)≠0 then some (U.int .u64 ((a.toNat:Int).tmod b.toNat)) else none)=_;rw[if_pos ⟨rfl,ag⟩];unfold u;rw[ak9];rfl
@[simp] theorem aeV (a b:Int) :cj .xor .u64 a .u64 b=some (.int .u64 (u (BitVec.ofInt 64 a ^^^ BitVec.ofInt 64 b))) :=by
 show some (U.int .u64 (IntKind.u64.wrap (u (BitVec.ofInt 64 a ^^^ BitVec.ofInt 64 b))))=_;rw[ws,la]
@[simp] theorem aeF (a b:Int) :cj .or .u64 a .u64 b=some (.int .u64 (u (BitVec.ofInt 64 a ||| BitVec.ofInt 64 b))) :=by
 show some (U.int .u64 (IntKind.u64.wrap (u (BitVec.ofInt 64 a ||| BitVec.ofInt 64 b))))=_;rw[ws,la]
@[simp] theorem KC (a b:Int) :cj .and .u64 a .u64 b=some (.int .u64 (u (BitVec.ofInt 64 a &&& BitVec.ofInt 64 b))) :=by
 show some (U.int .u64 (IntKind.u64.wrap (u (BitVec.ofInt 64 a &&& BitVec.ofInt 64 b))))=_;rw[ws,la]
end
@[simp] theorem afu (a:BitVec 8) :BitVec.ofInt 16 (u a)=a.setWidth 16:=oS 16 a
@[simp] theorem afv (a:BitVec 8) :BitVec.ofInt 32 (u a)=a.setWidth 32:=oS 32 a
@[simp] theorem afw (a:BitVec 8) :BitVec.ofInt 64 (u a)=a.setWidth 64:=oS 64 a
@[simp] theorem afn (a:BitVec 16) :BitVec.ofInt 8 (u a)=a.setWidth 8:=oS 8 a
@[simp] theorem afl (a:BitVec 16) :BitVec.ofInt 32 (u a)=a.setWidth 32:=oS 32 a
@[simp] theorem afm (a:BitVec 16) :BitVec.ofInt 64 (u a)=a.setWidth 64:=oS 64 a
@[simp] theorem afq (a:BitVec 32) :BitVec.ofInt 8 (u a)=a.setWidth 8:=oS 8 a
@[simp] theorem afo (a:BitVec 32) :BitVec.ofInt 16 (u a)=a.setWidth 16:=oS 16 a
@[simp] theorem afp (a:BitVec 32) :BitVec.ofInt 64 (u a)=a.setWidth 64:=oS 64 a
@[simp] theorem aft (a:BitVec 64) :BitVec.ofInt 8 (u a)=a.setWidth 8:=oS 8 a
@[simp] theorem afr (a:BitVec 64) :BitVec.ofInt 16 (u a)=a.setWidth 16:=oS 16 a
@[simp] theorem afs (a:BitVec 64) :BitVec.ofInt 32 (u a)=a.setWidth 32:=oS 32 a
@[simp] theorem ajR {w:Nat}:u (0#w)=0:=by simp[u]
theorem Fq (k:Nat) (c:Int) (ah:0<c) (ax:k<9223372036854775808) :cj .quo .i64 (k:Int) .i64 c=some (.int .i64 ((k / c.toNat:Nat) :Int)) :=by
 obtain⟨m,rfl⟩:=akF (Int.le_of_lt ah);have hm:(m:Int)≠0:=by omega
 show (if IntKind.i64=IntKind.i64/\(m:Int)≠0 then some (U.int .i64 (IntKind.i64.wrap ((k:Int).tdiv m))) else none)=_;rw[if_pos ⟨rfl,hm⟩,akr];have:((k:Int).tdiv m)=((k / m:Nat) :Int) :=rfl;have af:=anh k m;rw[this];generalize k / m=q at af;rw[wrap_i64 (by omega) (by omega)]
theorem wF (k:Nat) (c:Int) (ah:0<c) :cj .rem .i64 (k:Int) .i64 c=some (.int .i64 ((k % c.toNat:Nat) :Int)) :=by
 obtain⟨m,rfl⟩:=akF (Int.le_of_lt ah);have hm:(m:Int)≠0:=by omega
 show (if IntKind.i64=IntKind.i64/\(m:Int)≠0 then some (U.int .i64 ((k:Int).tmod m)) else none)=_;rw[if_pos ⟨rfl,hm⟩,akr];rfl
theorem Qi (k:IntKind) (w n:Nat) :rep n (.int k 0)=(List.replicate n (0#w)).map fun x=>.int k (u x) :=by
 simp[rep]
theorem nP {α:Type} (f:α->U) (l:List α) (i:Nat) (x:α) (h:i<l.length) :bi (l.map f) i [f x]=(l.set i x).map f:=by
 unfold bi;rw[alu,if_pos h];simp
theorem mz {cs vs:List U} (h:vs.length=cs.length) :bi cs 0 vs=vs:=by
 unfold bi;rw[alf,als,ald,h,List.drop_length,akQ]
theorem aJ {l:ap} {c c' : U} (h:c=c') (ah:c'.closed=true) :ii l c c':=by subst h; exact .same _ ah
theorem w4 {α:Type} {z:Nat}:∀ (es:List (List α)),(∀ e∈es,e.length=z)->∀ (i j:Nat) (e:List α) (c:α),es[i]? = some e->e[j]? = some c->es.flatten[i*z+j]? = some c:=by
 intro es aw
 induction es with
 | nil=>intro i j e c ao; simp at ao
 | cons x es aQ=>
  intro i j e c ao aj;have ai:x.length=z:=aw x (by simp);cases i with
  | zero=>
   simp only[akA,Option.some.injEq] at ao;subst ao;rw[akT,amh,alf,aj8 (aj7.1 aj).1];exact aj
  | succ i=>
   simp only[akN] at ao;rw[akT,akt (by rw[ai,akK]; omega),ai,show (i+1)*z+j - z=i*z+j by rw[akK]; omega];exact aQ (fun e ao=>aw e (by simp[ao])) i j e c ao aj
inductive rk (l:ap) :List U->List U->Prop
 | nil:rk l [] []
 | cons {c c' cs cs'}:fR (bM l) c c'->rk l cs cs'->rk l (c::cs) (c'::cs')
theorem rk.len {l:ap}:∀ {a b:List U},rk l a b->b.length=a.length
 | _,_,.nil=>rfl
 | _,_,.cons _ h=>by simp[h.len]
theorem rk.get {l:ap}:∀ {a b:List U},rk l a b->∀ (j:Nat) (c c' : U),a[j]? = some c->b[j]? = some c'->fR (bM l) c c'
 | _,_,.nil,j,c,c',h,_=>by simp at h
 | _,_,.cons ad af,j,c,c',h,h'=>by
  cases j with
  | zero=>simp at h h'; subst h h'; exact ad
  | succ j=>exact af.get j c c' (by simpa using h) (by simpa using h')
theorem kQ {P:Program} {G:Nat->U} {f:FuncId} {args i9:List U} {r:U} {l:ap} {K:U->ap->Prop} (av:bn P G f i9 r) (ay:rk l args i9) (aI:r.flat=true) (h:K r l) :dg P G f args l (c:=⟨K⟩) :=
 ⟨r,l,.PG av ay.len ay.get aI,akb _,h⟩
theorem PI {P:Program} {G:Nat->U} {f:FuncId} {args i9:List U} {r:U} {l:ap} {K:U->ap->Prop} (av:pb P G f i9 r) (ay:rk l args i9) (h:K r l) :dg P G f args l (c:=⟨K⟩) :=
 ⟨r,l,.PH av ay.len ay.get,akb _,h⟩
inductive jX (l:ap) :U->U->Prop
 | flat (c:U) (h:c.flat=true) :jX l c c
 | aH (cs cs' : List U) (am:cs'.length=cs.length) (h:∀ (j:Nat) (c c' : U),cs[j]? = some c->cs'[j]? = some c'->jX l c c') :jX l (.aH cs) (.aH cs')
 | bu (cs cs' : List U) (am:cs'.length=cs.length) (h:∀ (j:Nat) (c c' : U),cs[j]? = some c->cs'[j]? = some c'->jX l c c') :jX l (.bu cs) (.bu cs')
 | ar (z b off len cap sz:Nat) (cs:List U) (es:List (List U)) (ag:l[b]? = some (.cells sz cs)) (am:es.length=len) (aw:∀ e∈es,e.length=z)
   (dj:off+len*z<=cs.length)
   (h:∀ (i j:Nat) (e:List U) (c c' : U),es[i]? = some e->e[j]? = some c'->cs[off+(i*z+j)]? = some c->jX l c c') :jX l (.ar z b off len cap sz) (.b1 z es)
 | so (z b off cap sz:Nat) :jX l (.ar z b off 0 cap sz) (.b1 z [])
 | fw (z:Nat) :jX l (.b1 z []) (.b1 z [])
theorem abm {w:World} {R:Nat->Prop} {B:Nat} {l:ap} {μ:cI} (rel:bZ R B w (bM l) μ) :∀ {c c' : U},jX l c c'->∀ {v:Value},aP w R (bM l) μ c v->fA w (fun k=>B<=k) c' v:=by
 intro c c' ay
 induction ay with
 | flat c h=>intro v aq; exact LJ aq h
 | aH cs cs' am h aQ=>
  intro v aq;cases aq with
  | aH _ vs hg ad aq=>
   refine .aH cs' vs (by omega) ad (fun j c' v aj fk=>?_);have aO:j<cs.length:=by rw[<-am]; exact (aj7.1 aj).1
   exact aQ j cs[j] c' (aka aO) aj (aq j cs[j] v (aka aO) fk)
 | bu cs cs' am h aQ=>
  intro v aq;cases aq with
  | bu _ vs hg aq=>
   refine .bu cs' vs (by omega) (fun j c' v aj fk=>?_);have aO:j<cs.length:=by rw[<-am]; exact (aj7.1 aj).1
   exact aQ j cs[j] c' (aka aO) aj (aq j cs[j] v (aka aO) fk)
 | so z b off cap sz=>
  intro v aq;cases aq with
  | ar _ _ _ _ _ _ cap' cs m ag hm am au ah=>exact .fw z _ cap'
  | hZ _ _ _ _ _ _ cap' a am ah aA=>exact .fw z _ cap'
  | iT _ _ _ _ a cs m ag hm=>exact .fw z a 0
 | fw z=>
  intro v aq;generalize ao:([] :List (List U))=es at aq;generalize CJ:U.b1 z es=yV at aq;cases aq<;>cases CJ
  ·subst ao; exact .fw z _ _
  ·exact .fw z _ _
 | ar z b off len cap sz cs es ag am aw dj h aQ=>
  intro v aq;have pq:(bM l).f b=.cells sz cs:=mH.2 ag;cases aq with
  | iT _ _ _ _ a h4 m ft g3=>
   obtain rfl:=akH.1 am;exact .fw z a 0
  | hZ _ _ _ _ _ _ cap' a am ah aA=>
   exfalso;rcases aA with aA | ⟨n,h4,aA,aO⟩
   ·rw[pq] at aA; cases aA
   ·rw[pq] at aA; cases aA; omega
  | ar _ _ _ _ _ _ cap' h4 m ft hm jy au ah=>
   rw[pq] at ft; cases ft;have hP:=rel.blk b m hm;rw[pq] at hP;obtain⟨cR,gH,arr,t,gu,aV,aC,aI,lw⟩:=hP;have c3:len<=cap':=by rcases ah with ⟨_,h⟩ | ⟨_,h,_⟩<;>omega
   have rA:B<=m.r:=rel.base b m (by rw[pq]; rfl) hm;subst am;have pu:∀ i j,i<es.length->j<z->∃ c v,cs[off+(i*z+j)]? = some c/\arr[m.s+(off+(i*z+j))]? = some v/\v.oneCell'=true/\aP w R (bM l) μ c v:=by
    intro i j aB aj;have aO:off+(i*z+j)<cs.length:=by
     have:i*z+z<=es.length*z:=by rw[<-akK]; exact akc _ aB
     omega
    obtain⟨v,ad,af,al⟩:=lw _ _ (aka aO);exact⟨_,v,aka aO,ad,af,al⟩
   refine .b1 z es m.r (m.s+off) cap' (fun i j=>(arr[m.s+(off+(i*z+j))]?).getD undef) c3 aw (fun i j aB aj=>?_) (fun i e ao j c' aj=>?_)
   ·obtain⟨c,v,ad,af,al,aG⟩:=pu i j aB aj;refine⟨?_,?_,rA,fun ⟨b,m,ad,af,al⟩=>by cases af⟩
    ·simp only[World.cell?,aV,af,akO,amv];rw[show m.s+off+(i*z+j)=m.s+(off+(i*z+j)) by omega,af]; rfl
    ·rw[af]; exact al
   ·have aB:i<es.length:=(aj7.1 ao).1;have oD:j<z:=by rw[<-aw e (ake ao)]; exact (aj7.1 aj).1
    obtain⟨c,v,ad,af,al,aG⟩:=pu i j aB oD;simp only[af,akO];exact aQ i j e c c' ao aj ad aG
theorem A3 {P:Program} {G:Nat->U} (k4:P.follows .mixedOrders=true) (ky:∀ g,(G g).closed=true) {f:FuncId} {args:List U} {r:U} (h:dg P G f args [] (c:=⟨fun oV l=>jX l oV r⟩)) :pb P G f args r:=by
 obtain⟨oV,l',ad,af,al⟩:=h;intro w A vs aA am aq;refine (JA (A:=A) k4 ky ad aA am aq).mono ?_;rintro e w' ⟨v,μ',rfl,ag,rel,ay⟩;exact⟨v,rfl,ag,abm rel al ay⟩
theorem P7 {l:ap} {z b n cap sz:Nat} {es:List (List U)} {rest:List U} (ag:l[b]? = some (.cells sz (es.flatten++rest))) (aD:es.length=n) (aw:∀ e∈es,e.length=z) (ah:∀ e∈es,kV e=true) :jX l (.ar z b 0 n cap sz) (.b1 z es) :=by
 have gI:=ol (z:=z) (es:=es) (fun e ao=>aw e ao);refine .ar z b 0 n cap sz _ es ag aD aw (by rw[akf,gI,aD]; omega) (fun i j e c c' ao aj da=>?_);have aB:i<es.length:=(aj7.1 ao).1;have oD:j<z:=by rw[<-aw e (ake ao)]; exact (aj7.1 aj).1
 have aO:i*z+j<es.flatten.length:=by
  rw[gI];have:i*z+z<=es.length*z:=by rw[<-akK]; exact akc _ aB
  omega
 have ad:es.flatten[i*z+j]? = some c':=w4 es aw i j e c' ao aj;rw[alf,aj8 aO,ad] at da;cases da;exact .flat _ (Cf (ah e (ake ao)) j _ aj)
theorem P5 {l:ap} {c:U} (h:c.closed=true) :fR (bM l) c c:=.same c h
@[simp] theorem agU (n z:Nat) (cs:List U) (k:IntKind) (i:Int) :Dz n z (.aH cs) (.int k i)=if 0<=i/\i<n then cs[i.toNat*z]? else none:=id rfl
@[simp] theorem agV (n z:Nat) (cs:List U) (k:IntKind) (i:Int) :DA n z (.aH cs) (.int k i)=if 0<=i/\i<n then sj z cs (i.toNat*z) else none:=id rfl
@[simp] theorem xY (s:List UInt8) (k:IntKind) (i:Int) :xX (.str s) (.int k i)=if 0<=i then (s[i.toNat]?).map iK else none:=id rfl
theorem aci {α:Type} {l:List α} {i:Nat} {x:α} (h:l[i]? = some x) :l.set i x=l:=by
 obtain⟨aB,rfl⟩:=aj7.1 h;exact List.set_getElem_self aB
theorem ln {α:Type} (f:α->U) (aI:∀ x,(f x).closed=true) :∀ l:List α,a1 (l.map f)=true
 | []=>rfl
 | x::l=>by simp only[akx,a1,aI,ln f aI l,alP]
theorem K4 {α:Type} (f:α->U) (aI:∀ x,(f x).closed=true) (l:List α) :(U.aH (l.map f)).closed=true:=by simp only[U.closed]; exact ln f aI l
theorem w1 {α:Type} (f:α->U) (aI:∀ x,(f x).flat=true) :∀ l:List α,kV (l.map f)=true
 | []=>rfl
 | x::l=>by simp only[akx,kV,aI,w1 f aI l,alP]
theorem LI {α:Type} (f:α->U) (aI:∀ x,(f x).flat=true) (l:List α) :(U.aH (l.map f)).flat=true:=by simp only[U.flat]; exact w1 f aI l
@[simp] theorem aeZ (z:Nat) :sS (.ar z) .aK=some (.int .i64 0) :=id rfl
@[simp] theorem aeY (n z:Nat) (x:U) :sS (.arr n z) x=some (.int .i64 n) :=id rfl
theorem ajA (z:Nat) (cE aB cB:Option U) :e3 (.ar z) .aK cE aB cB=(gp 0 0 cE aB cB).map fun _=>.aK:=rfl
@[simp] theorem ajB (z:Nat) (k:IntKind) :e3 (.ar z) .aK none (some (.int k 0)) none=some .aK:=id rfl
theorem Bg (z b off len cap sz:Nat) (cE aB cB:Option U) :e3 (.ar z) (.ar z b off len cap sz) cE aB cB=(gp len cap cE aB cB).map fun (l,aR,m)=>if m=l then .ar z b (off+l*z) 0 0 sz else .ar z b (off+l*z) (aR - l) (m - l) sz:=by
 simp[e3]
theorem D2 {α:Type} {l:List α} {a:α} (h:l[0]? = some a) :∃ r,l=a::r:=by
 cases l with
 | nil=>simp at h
 | cons x l=>simp at h; subst h; exact⟨l,rfl⟩
theorem ac7 {α:Type} {l:List α} {b:α} (h:l[1]? = some b) :∃ a r,l=a::b::r:=by
 cases l with
 | nil=>simp at h
 | cons x l=>obtain⟨r,rfl⟩:=D2 (l:=l) (by simpa using h); exact⟨x,r,rfl⟩
theorem Ba (zero:List U) (n:Nat) :(dz zero n).length=n*zero.length:=by
 induction n with
 | zero=>simp[dz]
 | succ n aQ=>simp[dz,aQ,akK,am4]
theorem A9 (zero:List U) (n:Nat) :dz zero n=(List.replicate n zero).flatten:=by
 induction n with
 | zero=>rfl
 | succ n aQ=>rw[dz,aQ,akW,akT]
inductive bJ (z:Nat) (l:ap) :U->Nat->List (List U)->Prop
 | nil (j:Nat) :bJ z l .aK j []
 | ar (j n cap sz:Nat) (cs:List U) (es:List (List U)) (ag:l[j]? = some (.cells sz cs)) (am:cs.length=sz) (aD:es.length=n) (aw:∀ e∈es,e.length=z) (ah:n<=cap) (c3:cap*z<=sz)
   (cR:cs.take (n*z)=es.flatten) :bJ z l (.ar z j 0 n cap sz) j es
def cw:U->Bool | .aK=>true | _=>false
theorem jH {v:U}:cw v=true<->v=.aK:=by cases v<;>simp[cw]
theorem tF {α:Type} {v a4:U} {xs:List α} (h:a4=.aK<->v=.aK/\xs=[]) :cw a4=(cw v&&xs.isEmpty) :=by
 rw[amt,jH,h,akh,jH,am6]
def q6 (z:Nat) (v:U) (es:List (List U)) :U:=match cw v with | true=>.aK | false=>.b1 z es
section
variable {z:Nat} {l l' : ap} {v:U} {j:Nat} {es:List (List U)}
theorem bJ.lt (h:bJ z l v j es) :v=.aK\/j<l.length:=by
 cases h with
 | nil j=>exact .inl rfl
 | ar j n cap sz cs es ag=>exact .inr (b9 ag)
theorem bJ.row (h:bJ z l v j es) :∀ e∈es,e.length=z:=by
 cases h with
 | nil j=>intro e ao; cases ao
 | ar j n cap sz cs es ag am aD aw=>exact aw
theorem bJ.cells (h:bJ z l v j es) :v.cells=some [v] :=by cases h<;>rfl
theorem bJ.len (h:bJ z l v j es) :ch (.ar z) v=some (.int .i64 es.length) :=by
 cases h with
 | nil j=>rfl
 | ar j n cap sz cs es ag am aD=>subst aD; rfl
theorem bJ.frame (h:bJ z l v j es) (aj:j<l.length->l'[j]? = l[j]?) :bJ z l' v j es:=by
 cases h with
 | nil j=>exact .nil j
 | ar j n cap sz cs es ag am aD aw ah c3 cR=>exact .ar j n cap sz cs es (by rw[aj (b9 ag)]; exact ag) am aD aw ah c3 cR
theorem bJ.jt (h:bJ z l v j es) (aj:v=.aK\/l'[j]? = l[j]?) :bJ z l' v j es:=by
 cases h with
 | nil j=>exact .nil j
 | ar j n cap sz cs es ag am aD aw ah c3 cR=>
  rcases aj with aj | aj
  ·cases aj
  ·exact .ar j n cap sz cs es (by rw[aj]; exact ag) am aD aw ah c3 cR
theorem bJ.more (h:bJ z l v j es) (x:ap) :bJ z (l++x) v j es:=h.frame fun aj=>aj8 aj
theorem bJ.contents (h:bJ z l v j es) :dd l z v=some (es.flatten,es.length) :=by
 cases h with
 | nil j=>rfl
 | ar j n cap sz cs es ag am aD aw ah c3 cR=>subst aD; simp only[dd,ag,and_self,if_true,alH,cR]
theorem bJ.Eg (h:bJ z l v j es) (aI:∀ e∈es,kV e=true) :jX l v (q6 z v es) :=by
 cases h with
 | nil j=>exact .flat _ rfl
 | ar j n cap sz cs es ag am aD aw ah c3 cR=>
  show jX l _ (.b1 z es);refine P7 (rest:=cs.drop (n*z)) ?_ aD aw aI;rw[ag,<-cR,ak1]
theorem bJ.q3 (h:bJ z l v j es) (aI:∀ e∈es,a1 e=true) :fR (bM l) v (q6 z v es) :=by
 cases h with
 | nil j=>exact .same _ rfl
 | ar j n cap sz cs es ag am aD aw ah c3 cR=>
  show fR (bM l) _ (.b1 z es);have Da:n*z<=cs.length:=by rw[am]; exact akV (akc _ ah) c3
  refine .ar z j 0 n cap sz cs es (mH.2 ag) aD aw (by omega) (fun i k e c c' ao ax da=>?_);have aB:i<es.length:=(aj7.1 ao).1;have vJ:k<z:=by rw[<-aw e (ake ao)]; exact (aj7.1 ax).1
  have aO:i*z+k<n*z:=by
   have:i*z+z<=es.length*z:=by rw[<-akK]; exact akc _ aB
   rw[aD] at this; omega
  have ad:es.flatten[i*z+k]? = some c':=w4 es aw i k e c' ao ax;rw[<-cR,aku aO] at ad;rw[alf,ad] at da;cases da;exact .same _ (y2 (aI e (ake ao)) k _ ax)
theorem Ef {l:ap} {z b n cap sz:Nat} {es:List (List U)} {rest:List U} (ag:l[b]? = some (.cells sz (es.flatten++rest))) (aD:es.length=n) (aw:∀ e∈es,e.length=z) (ah:∀ e∈es,a1 e=true) :fR (bM l) (.ar z b 0 n cap sz) (.b1 z es) :=by
 have gI:=ol (z:=z) (es:=es) (fun e ao=>aw e ao);refine .ar z b 0 n cap sz _ es (mH.2 ag) aD aw (by rw[akf,gI,aD]; omega) (fun i j e c c' ao aj da=>?_);have aB:i<es.length:=(aj7.1 ao).1;have oD:j<z:=by rw[<-aw e (ake ao)]; exact (aj7.1 aj).1
 have aO:i*z+j<es.flatten.length:=by
  rw[gI];have:i*z+z<=es.length*z:=by rw[<-akK]; exact akc _ aB
  omega
 have ad:es.flatten[i*z+j]? = some c':=w4 es aw i j e c' ao aj;rw[alf,aj8 aO,ad] at da;cases da;exact .same _ (y2 (ah e (ake ao)) j _ aj)
theorem Ko (h:bJ z l v j es) {by_ m:Nat} {xs:List (List U)} (hm:xs.length=m) (rZ:∀ e∈xs,e.length=z) (aF:z≠0) (ep:by_≠0) (ed:(es.length+m)*by_<=cF) :
  ∃ a4 cb l',i8 l z by_ v xs.flatten m=some (a4,l')/\bJ z l' a4 cb (es++xs)/\l.length<=l'.length/\(∀ b,b<l.length->b≠j->l'[b]? = l[b]?)/\(cb=j\/l.length<=cb)/\(a4=.aK<->v=.aK/\xs=[]) :=by
 by_cases lz:m=0
 ·have ai:xs=[] :=akH.1 (by omega);subst ai;refine⟨v,j,l,?_,by simpa using h,akb _,fun _ _ _=>rfl,.inl rfl,by simp⟩;unfold i8;rw[if_pos lz];cases h<;>rfl
 have bm:xs.flatten.length=m*z:=by rw[ol rZ,hm]
 have tz:∀ e∈es++xs,e.length=z:=fun e ao=>by
  rcases ak5.1 ao with ad | ad
  ·exact h.row e ad
  ·exact rZ e ad
 have bW:xs≠[] :=fun ai=>lz (by rw[<-hm,ai]; rfl)
 cases h with
 | nil j=>
  refine⟨.ar z l.length 0 m m (m*z),l.length,l++[.cells (m*z) xs.flatten],?_,?_,by simp,fun b ag _=>aj8 ag,.inr (akb _),by simp[bW]⟩
  ·unfold i8;rw[if_neg lz,if_neg (by omega)];simp only;rw[if_pos (by simpa using ed)]
  ·refine .ar _ _ _ _ xs.flatten _ (by simp) bm (by simpa using hm) tz (akb _) (akb _) ?_;rw[aj9 (by omega)]; rfl
 | ar j n cap sz cs es ag am aD aw ah c3 cR=>
  subst aD;have Da:es.length*z<=cap*z:=akc _ ah;have C4:(es++xs).length=es.length+m:=by simp[hm]
  have gI:(es++xs).flatten=es.flatten++xs.flatten:=by simp
  have xt:es.flatten.length=es.length*z:=ol aw;have k0:i8 l z by_ (.ar z j 0 es.length cap sz) xs.flatten m =
    if es.length+m<=cap then some (.ar z j 0 (es.length+m) cap sz,l.set j (.cells sz (bi cs (es.length*z) xs.flatten)))
    else if cap*z<sz then some (.ar z l.length 0 (es.length+m) (es.length+m) ((es.length+m)*z),l++[.cells ((es.length+m)*z) (es.flatten++xs.flatten)])
    else some (.ar z j 0 (es.length+m) (es.length+m) ((es.length+m)*z),l.set j (.cells ((es.length+m)*z) (es.flatten++xs.flatten))) :=by
   unfold i8;rw[if_neg lz,if_neg (by omega)];simp only[ag];rw[if_pos ⟨trivial,trivial,ed⟩];simp only[alf,alH,cR,if_true]
  rw[k0];have ev:=b9 ag;split
  ·rename_i ad;have W9:(es.length+m)*z<=cap*z:=akc _ ad;rw[akS] at W9;refine⟨_,j,_,rfl,?_,by simp,fun b bN rB=>by rw[akl (fun e=>rB e.symm)],.inl rfl,by simp⟩;refine .ar j _ cap sz (bi cs (es.length*z) xs.flatten) _ (by rw[akm ev]) ?_ C4 tz ad c3 ?_
   ·rw[wm (by omega)]; omega
   ·rw[gI];unfold bi;rw[cR,akP (by simp[xt,bm,akS]),aj9 (by simp[xt,bm,akS])]
  ·split
   ·refine⟨_,l.length,_,rfl,?_,by simp,fun b bN _=>aj8 bN,.inr (akb _),by simp⟩;refine .ar _ _ _ _ (es.flatten++xs.flatten) _ (by simp) (by simp[xt,bm,akS]) C4 tz (akb _) (akb _) ?_;rw[gI,aj9 (by simp[xt,bm,akS])]
   ·refine⟨_,j,_,rfl,?_,by simp,fun b bN rB=>by rw[akl (fun e=>rB e.symm)],.inl rfl,by simp⟩;refine .ar j _ _ _ (es.flatten++xs.flatten) _ (by rw[akm ev]) (by simp[xt,bm,akS]) C4 tz (akb _) (akb _) ?_;rw[gI,aj9 (by simp[xt,bm,akS])]
theorem nf (h:bJ z l v j es) {by_:Nat} {x:U} {xs:List (List U)} (ai:dd l z x=some (xs.flatten,xs.length)) (rZ:∀ e∈xs,e.length=z) (aF:z≠0) (ep:by_≠0) (ed:(es.length+xs.length)*by_<=cF) :
  ∃ a4 cb l',fS l z by_ v x=some (a4,l')/\bJ z l' a4 cb (es++xs)/\l.length<=l'.length/\(∀ b,b<l.length->b≠j->l'[b]? = l[b]?)/\(cb=j\/l.length<=cb)/\(a4=.aK<->v=.aK/\xs=[]) :=by
 unfold fS;rw[ai];exact Ko h rfl rZ aF ep ed
theorem Sx (h:bJ z l v j es) {by_ n:Nat} {k:IntKind} {zero:List U} (iw:zero.length=z) (aF:z≠0) (ep:by_≠0) (aD:n<9223372036854775808) (ed:(es.length+n)*by_<=cF) :
  ∃ a4 cb l',qj l z by_ zero v (.int k (n:Int))=some (a4,l')/\bJ z l' a4 cb (es++List.replicate n zero)/\l.length<=l'.length/\(∀ b,b<l.length->b≠j->l'[b]? = l[b]?)/\(cb=j\/l.length<=cb)/\(a4=.aK<->v=.aK/\n=0) :=by
 have:=Ko h (xs:=List.replicate n zero) (m:=n) (by simp) (fun e ao=>by rw[(List.mem_replicate.1 ao).2,iw]) aF ep ed;obtain⟨a4,cb,l',ad,af⟩:=this;refine⟨a4,cb,l',?_,by simpa [List.replicate_eq_nil_iff] using af⟩;unfold qj;simp only[akr];rw[if_pos ⟨by omega,by omega,by have:=akV (akc by_ (Nat.le_add_left n es.length)) ed; exact this⟩,A9];exact ad
theorem SB {l:ap} {z by_ n:Nat} {v a4:U} {xs:List U} {pre rest:ap} {l' : ap} (aq:v=.aK\/∃ j n cap sz,v=.ar z j 0 n cap sz/\pre.length<=j) (h:i8 (pre++rest) z by_ v xs n=some (a4,l')) :
  ∃ q5,l'=pre++q5:=by
 unfold i8 at h;by_cases aD:n=0
 ·rw[if_pos aD] at h;rcases aq with rfl | ⟨j,m,cap,sz,rfl,aj⟩<;>(cases h; exact⟨_,rfl⟩)
 rw[if_neg aD] at h;by_cases aF:z=0\/by_=0
 ·rw[if_pos aF] at h; cases h
 rw[if_neg aF] at h;rcases aq with rfl | ⟨j,m,cap,sz,rfl,aj⟩
 ·simp only at h;split at h
  ·cases h; exact⟨_,by rw[akU]⟩
  ·cases h
 ·simp only at h;split at h
  ·split at h
   ·split at h
    ·cases h; exact⟨_,by rw[alc _ _ aj]⟩
    ·split at h
     ·cases h; exact⟨_,by rw[akU]⟩
     ·split at h
      ·cases h; exact⟨_,by rw[alc _ _ aj]⟩
      ·rename_i aR; exact absurd trivial aR
   ·cases h
  ·cases h
theorem u5 {z by_:Nat} {v:U} {j:Nat} {es:List (List U)} {pre rest:ap} (h:bJ z (pre++rest) v j es) (aj:v=.aK\/pre.length<=j) {x:U} {xs:List (List U)} (ai:dd (pre++rest) z x=some (xs.flatten,xs.length)) (rZ:∀ e∈xs,e.length=z) (aF:z≠0) (ep:by_≠0)
  (ed:(es.length+xs.length)*by_<=cF) :
  ∃ a4 cb q5,fS (pre++rest) z by_ v x=some (a4,pre++q5)/\bJ z (pre++q5) a4 cb (es++xs)/\(a4=.aK\/pre.length<=cb)/\cw a4=(cw v&&xs.isEmpty) :=by
 have aI:v=.aK\/∃ j n cap sz,v=.ar z j 0 n cap sz/\pre.length<=j:=by
  cases h with
  | nil j=>exact .inl rfl
  | ar j n cap sz cs es=>exact .inr ⟨j,n,cap,sz,rfl,aj.resolve_left (by simp)⟩
 obtain⟨a4,cb,l',ad,af,al,aG,a6,bK⟩:=nf h ai rZ aF ep ed;have dD:=ad;unfold fS at dD;rw[ai] at dD;obtain⟨q5,rfl⟩:=SB (l:=[]) aI dD;refine⟨a4,cb,q5,ad,af,?_,tF bK⟩;rcases a6 with h | h
 ·rcases aj with aq | aj
  ·by_cases xS:xs=[]
   ·exact .inl (bK.2 ⟨aq,xS⟩)
   ·right;subst aq;have xR:xs.length≠0:=fun e=>xS (akH.1 e)
    simp only at dD;unfold i8 at dD;rw[if_neg xR] at dD;split at dD
    ·cases dD
    ·simp only at dD;split at dD
     ·obtain⟨rfl,_⟩:=Prod.mk.inj (Option.some.inj dD);generalize es++xs=E at af;cases af;simp
     ·cases dD
  ·right; omega
 ·right;rw[akf] at h; omega
theorem bJ.view (h:bJ z l v j es) (aq:cw v=false) :∃ n cap sz cs,v=.ar z j 0 n cap sz/\l[j]? = some (.cells sz cs)/\cs.length=sz/\es.length=n/\n*z<=sz/\(∀ i e,es[i]? = some e->∀ m,m<z->cs[i*z+m]? = e[m]?)/\cs.take (n*z)=es.flatten:=by
 cases h with
 | nil j=>simp[cw] at aq
 | ar j n cap sz cs es ag am aD aw ah c3 cR=>
  refine⟨n,cap,sz,cs,rfl,ag,am,aD,akV (akc _ ah) c3,fun i e ao m hm=>?_,cR⟩;have aB:i<es.length:=(aj7.1 ao).1;have aO:i*z+m<n*z:=by
   have:i*z+z<=es.length*z:=by rw[<-akK]; exact akc _ aB
   rw[aD] at this; omega
  have ad:=w3 aw ao hm;rw[<-ad,<-cR,aku aO]
theorem bJ.A8 {α:Type} {enc:α->List U} {xs:List α} (h:bJ z l v j (xs.map enc)) (aI:∀ x,kV (enc x)=true) (s:cT α) (ak:cw v=s.isNone) (ai:s.l=xs) :jX l v (ct z enc s) :=by
 have ad:=h.Eg (fun e ao=>by obtain⟨x,_,rfl⟩:=akz.1 ao; exact aI x);subst ai;unfold q6 at ad;rw[ak] at ad;cases s with
 | none=>exact ad
 | some s=>exact ad
theorem bJ.ug {α:Type} {enc:α->List U} {xs:List α} (h:bJ z l v j (xs.map enc)) (aI:∀ x,a1 (enc x)=true) (s:cT α) (ak:cw v=s.isNone) (ai:s.l=xs) :fR (bM l) v (ct z enc s) :=by
 have ad:=h.q3 (fun e ao=>by obtain⟨x,_,rfl⟩:=akz.1 ao; exact aI x);subst ai;unfold q6 at ad;rw[ak] at ad;cases s with
 | none=>exact ad
 | some s=>exact ad
end
inductive fG (z:Nat) (l:ap) :U->Nat->List (List U)->Prop
 | nil (j:Nat) :fG z l .aK j []
 | ar (j off n cap sz:Nat) (cs:List U) (es:List (List U)) (ag:l[j]? = some (.cells sz cs)) (am:cs.length=sz) (aD:es.length=n) (aw:∀ e∈es,e.length=z) (ah:n<=cap) (c3:off+cap*z<=sz)
   (cR:(cs.drop off).take (n*z)=es.flatten) :fG z l (.ar z j off n cap sz) j es
section
variable {z:Nat} {l l' : ap} {v:U} {j:Nat} {es:List (List U)}
theorem bJ.q (h:bJ z l v j es) :fG z l v j es:=by
 cases h with
 | nil j=>exact .nil j
 | ar j n cap sz cs es ag am aD aw ah c3 cR=>exact .ar j 0 n cap sz cs es ag am aD aw ah (by omega) (by simpa using cR)
theorem fG.row (h:fG z l v j es) :∀ e∈es,e.length=z:=by
 cases h with
 | nil j=>intro e ao; cases ao
 | ar j off n cap sz cs es ag am aD aw=>exact aw
theorem fG.lt (h:fG z l v j es) :v=.aK\/j<l.length:=by
 cases h with
 | nil j=>exact .inl rfl
 | ar j off n cap sz cs es ag=>exact .inr (b9 ag)
theorem fG.cells (h:fG z l v j es) :v.cells=some [v] :=by cases h<;>rfl
theorem fG.len (h:fG z l v j es) :ch (.ar z) v=some (.int .i64 es.length) :=by
 cases h with
 | nil j=>rfl
 | ar j off n cap sz cs es ag am aD=>subst aD; rfl
theorem fG.jt (h:fG z l v j es) (aj:v=.aK\/l'[j]? = l[j]?) :fG z l' v j es:=by
 cases h with
 | nil j=>exact .nil j
 | ar j off n cap sz cs es ag am aD aw ah c3 cR=>
  rcases aj with aj | aj
  ·cases aj
  ·exact .ar j off n cap sz cs es (by rw[aj]; exact ag) am aD aw ah c3 cR
theorem fG.more (h:fG z l v j es) (x:ap) :fG z (l++x) v j es:=h.jt (by
 rcases h.lt with h | h
 ·exact .inl h
 ·exact .inr (aj8 h))
theorem fG.In (h:fG z l .aK j es) :es=[] :=by
 generalize aq:U.aK=w at h;cases h with
 | nil j=>rfl
 | ar=>cases aq
theorem fG.from (h:fG z l v j es) (aq:cw v=false) {k:IntKind} {i:Nat} (aB:i<=es.length) :∃ a4,e3 (.ar z) v (some (.int k (i:Int))) none none=some a4/\fG z l a4 j (es.drop i)/\cw a4=false:=by
 cases h with
 | nil j=>simp[cw] at aq
 | ar j off n cap sz cs es ag am aD aw ah c3 cR=>
  subst aD;have rP:i*z+(cap - i)*z=cap*z:=by rw[<-akS]; congr 1; omega
  have Np:i*z+(es.length - i)*z=es.length*z:=by rw[<-akS]; congr 1; omega
  have er:es.length*z<=cap*z:=akc _ ah;have Yc:∀ e∈es.drop i,e.length=z:=fun e ao=>aw e (alw ao)
  have gI:(es.drop i).flatten=(es.flatten).drop (i*z) :=by
   have ad:es.flatten=(es.take i).flatten++(es.drop i).flatten:=by rw[<-akZ,ak1]
   have af:(es.take i).flatten.length=i*z:=by
    rw[ol (z:=z) (fun e ao=>aw e (akD ao)),akB];congr 1; omega
   rw[ad,<-af,List.drop_left]
  rw[Bg,KM,if_pos ⟨by omega,by omega⟩];simp only[akr,akg,Option.some.injEq,exists_eq_left'];by_cases fK:cap=i
  ·rw[if_pos fK];have Wb:es.drop i=[] :=alR (by omega);refine⟨?_,rfl⟩;rw[Wb];exact .ar j _ 0 0 sz cs [] ag am rfl (by simp) (akb _) (by omega) (by simp)
  ·rw[if_neg fK];refine⟨.ar j _ _ _ sz cs _ ag am (by simp) Yc (by omega) (by omega) ?_,rfl⟩;rw[gI,<-cR,ami,amA];congr 1; omega
theorem fG.get (h:fG z l v j es) {k:IntKind} {i:Nat} {e:List U} (ao:es[i]? = some e) :∃ p cs o,cN (.ar z) v (.int k (i:Int))=some p/\gW l p=some (cs,o)/\o+z<=cs.length/\(cs.drop o).take z=e:=by
 cases h with
 | nil j=>simp at ao
 | ar j off n cap sz cs es ag am aD aw ah c3 cR=>
  subst aD;have aB:=(aj7.1 ao).1;have ad:i*z+z<=es.length*z:=by rw[<-akK]; exact akc _ aB
  have af:es.length*z<=cap*z:=akc _ ah;refine⟨.ptr j (off+i*z) sz,cs,off+i*z,?_,?_,by omega,?_⟩
  ·simp only[cN,akr];rw[if_pos ⟨trivial,by omega,by omega⟩]
  ·simp only[gW,ag,if_true]
  ·have We:=aw e (ake ao);apply akY;intro m;by_cases hm:m<z
   ·rw[aku hm,akG,<-w3 aw ao hm,<-cR,aku (by omega),akG];congr 1; omega
   ·rw[akp (by simp; omega),akp (by omega)]
theorem fG.Eg (h:fG z l v j es) (aI:∀ e∈es,kV e=true) :jX l v (q6 z v es) :=by
 cases h with
 | nil j=>exact .flat _ rfl
 | ar j off n cap sz cs es ag am aD aw ah c3 cR=>
  show jX l _ (.b1 z es);have Da:off+n*z<=cs.length:=by rw[am]; have:=akc z ah; omega
  refine .ar z j off n cap sz cs es ag aD aw (by omega) (fun i k e c c' ao ax da=>?_);have aB:i<es.length:=(aj7.1 ao).1;have vJ:k<z:=by rw[<-aw e (ake ao)]; exact (aj7.1 ax).1
  have aO:i*z+k<n*z:=by
   have:i*z+z<=es.length*z:=by rw[<-akK]; exact akc _ aB
   rw[aD] at this; omega
  have ad:es.flatten[i*z+k]? = some c':=w4 es aw i k e c' ao ax;rw[<-cR,aku aO,akG] at ad;rw[ad] at da;cases da;exact .flat _ (Cf (aI e (ake ao)) k _ ax)
theorem fG.q3 (h:fG z l v j es) (aI:∀ e∈es,a1 e=true) :fR (bM l) v (q6 z v es) :=by
 cases h with
 | nil j=>exact .same _ rfl
 | ar j off n cap sz cs es ag am aD aw ah c3 cR=>
  show fR (bM l) _ (.b1 z es);have Da:off+n*z<=cs.length:=by rw[am]; have:=akc z ah; omega
  refine .ar z j off n cap sz cs es (mH.2 ag) aD aw (by omega) (fun i k e c c' ao ax da=>?_);have aB:i<es.length:=(aj7.1 ao).1;have vJ:k<z:=by rw[<-aw e (ake ao)]; exact (aj7.1 ax).1
  have aO:i*z+k<n*z:=by
   have:i*z+z<=es.length*z:=by rw[<-akK]; exact akc _ aB
   rw[aD] at this; omega
  have ad:es.flatten[i*z+k]? = some c':=w4 es aw i k e c' ao ax;rw[<-cR,aku aO,akG] at ad;rw[ad] at da;cases da;exact .same _ (y2 (aI e (ake ao)) k _ ax)
theorem fG.rd (h:fG z l v j es) (aI:∀ e∈es,a1 e=true) :ii l v (q6 z v es) :=by
 cases h with
 | nil j=>exact .same _ rfl
 | ar j off n cap sz cs es ag am aD aw ah c3 cR=>
  show ii l _ (.b1 z es);have Da:off+n*z<=cs.length:=by rw[am]; have:=akc z ah; omega
  refine .ar z j off n cap sz cs es ag aD aw (by omega) (fun i k e c c' ao ax da=>?_);have aB:i<es.length:=(aj7.1 ao).1;have vJ:k<z:=by rw[<-aw e (ake ao)]; exact (aj7.1 ax).1
  have aO:i*z+k<n*z:=by
   have:i*z+z<=es.length*z:=by rw[<-akK]; exact akc _ aB
   rw[aD] at this; omega
  have ad:es.flatten[i*z+k]? = some c':=w4 es aw i k e c' ao ax;rw[<-cR,aku aO,akG] at ad;rw[ad] at da;cases da;exact .same _ (y2 (aI e (ake ao)) k _ ax)
theorem fG.q4 {α:Type} {enc:α->List U} {xs:List α} (h:fG z l v j (xs.map enc)) (aI:∀ x,a1 (enc x)=true) (s:cT α) (ak:cw v=s.isNone) (ai:s.l=xs) :ii l v (ct z enc s) :=by
 have ad:=h.rd (fun e ao=>by obtain⟨x,_,rfl⟩:=akz.1 ao; exact aI x);subst ai;unfold q6 at ad;rw[ak] at ad;cases s with
 | none=>exact ad
 | some s=>exact ad
theorem fG.A8 {α:Type} {enc:α->List U} {xs:List α} (h:fG z l v j (xs.map enc)) (aI:∀ x,kV (enc x)=true) (s:cT α) (ak:cw v=s.isNone) (ai:s.l=xs) :jX l v (ct z enc s) :=by
 have ad:=h.Eg (fun e ao=>by obtain⟨x,_,rfl⟩:=akz.1 ao; exact aI x);subst ai;unfold q6 at ad;rw[ak] at ad;cases s with
 | none=>exact ad
 | some s=>exact ad
theorem fG.ug {α:Type} {enc:α->List U} {xs:List α} (h:fG z l v j (xs.map enc)) (aI:∀ x,a1 (enc x)=true) (s:cT α) (ak:cw v=s.isNone) (ai:s.l=xs) :fR (bM l) v (ct z enc s) :=by
 have ad:=h.q3 (fun e ao=>by obtain⟨x,_,rfl⟩:=akz.1 ao; exact aI x);subst ai;unfold q6 at ad;rw[ak] at ad;cases s with
 | none=>exact ad
 | some s=>exact ad
end
theorem SN {P:Program} {t:TypeId} {xs bL:List U} {r:Bool} (aA:P.eqGuardType P.depth t=false) (h:ek P 10000 t (.aH xs) (.aH bL)=some r) :fT P .eql t (.aH xs) (.aH bL)=some (.bool r) :=by
 simp only[fT,vj,aA,amR,if_true,h]; rfl
theorem SO {P:Program} {t:TypeId} {xs bL:List U} {r:Bool} (aA:P.eqGuardType P.depth t=false) (h:ek P 10000 t (.aH xs) (.aH bL)=some r) :fT P .neq t (.aH xs) (.aH bL)=some (.bool (!r)) :=by
 simp only[fT,vj,aA,amR,if_true,h]; rfl
end Go.ca

namespace Go.ca
open Go Go.ChangeShapes Go.RowKit
theorem aah (k:Nat) :¬ nc aW.empty (fun _=>none) k:=by
 rintro⟨b,m,am,_,_⟩;simp[aW.empty,aW.f,live,cJ.get] at am
theorem UY {H:Type} {enc:TypeId × Value->H} {P:Program} {w:World} {base:Nat} {spare:Nat->Bool} {held:Bool} {fuel:Nat} {x6:String} {g t e n:Nat} {cs:Array Value} {x:DataW H × List MemPlace} (b7:List Int)
  (aA:P.globalNamed x6=some g) (aq:w.var? P x6=some cs) (aM:P.underlying t=some (.array n e)) (ao:P.underlying e=some (.int .u32)) (ah:P.cellsOf e=1) (bh:DataW.trod enc P w base spare held fuel t cs.toList=some x)
  (ai:x.1=.agg (b7.map fun k=>.lit (.int .u32 k))) :fA w (fun _=>True) (.cg (b7.map fun k=>.int .u32 k) 0) (.pointer (some ⟨g,0,none⟩)) :=by
 obtain⟨xs,m,rfl,xR,bC,aD,Wd⟩:=DataW.trod_array aM bh;rw[xR] at ai;simp only[DataW.agg.injEq] at ai;have th:b7.length=n:=by have:=congrArg List.length ai; simp at this; omega
 have lw:∀ j k,b7[j]? = some k->w.cell? ⟨g,j,none⟩=some (.int .u32 k) :=by
  intro j k aj;have iY:j<n:=by have:=(aj7.1 aj).1; omega
  have ad:=Wd j iY;rw[ah,alM] at ad;have C0:j<xs.length:=by omega
  rw[aka C0] at ad;obtain⟨k',aS,bv,_⟩:=DataW.trod_int ao ad;have al:=congrArg (fun l=>l[j]?) ai;simp only[akd,aka C0,aj,akg,Option.some.injEq] at al;rw[bv] at al;have qw:k'=k:=by simpa using al
  subst qw;have aG:=World.var?_cell aA aq j;rw[aG];have a6:(cs.toList.drop j)[0]? = some (Value.int .u32 k') :=by
   have:((cs.toList.drop j).take 1)[0]? = some (Value.int .u32 k') :=by rw[aS]; rfl
   rw[List.getElem?_take] at this;simpa using this
  rw[akG] at a6;simpa using a6
 refine .cg _ 0 g 0 (fun j=>.int .u32 (b7.getD j 0)) (fun j aj=>?_) (fun j c aj=>?_)
 ·rw[aki] at aj;refine⟨?_,rfl,trivial,aah g⟩;rw[alf,lw j b7[j] (aka aj),ako,aka aj];rfl
 ·rw[akd] at aj;cases ax:b7[j]? with
  | none=>rw[ax] at aj; cases aj
  | some k=>
   rw[ax] at aj;cases aj;rw[ako,ax];exact .int _ _
theorem Rd {H:Type} {enc:TypeId × Value->H} {P:Program} {w:World} {base:Nat} {spare:Nat->Bool} {held:Bool}:∀ {ts:List TypeId} {vs:List Value} {hE:List (DataW H)} {ps:List MemPlace},
  DataW.TrodAll enc P w base spare held ts vs hE ps->hE.length=ts.length
 | [],vs,hE,ps,h=>by obtain⟨rfl,rfl,rfl⟩:=trodAll_nil h; rfl
 | t::ts,vs,hE,ps,h=>by
  obtain⟨v,adw,d,T8,a,b,rfl,rfl,rfl,ad,af⟩:=trodAll_cons h;simp[Rd af]
end Go.ca

namespace Go.ca
open Go
def dq (l:List Nat) :List U:=l.map fun n=>.int .u8 (.ofNat n)
def g4 (l:List U) :List (List U) :=l.map fun c=>[c]
end Go.ca

namespace Go.ca
open Go Go.Proofs Go.Shelf Go.Sort Go.RowKit
def sorted {X:Type} (Tp:X->X->Int) (xs:List X) :List X:=xs.mergeSort fun x y=>!ltOf Tp y x
section
variable {P:Program} {G:Nat->U} {X:Type} {enc:X->List U} {k:Nat}
theorem Qn (ax:∀ x,(enc x).length=k) (xs:List X) {j:Nat} (aj:j<xs.length*k) :∃ x c,xs[j / k]? = some x/\(enc x)[j % k]? = some c/\((xs.map enc).flatten)[j]? = some c:=by
 have zX:0<k:=Nat.pos_of_ne_zero fun h=>by subst h; simp at aj
 have ad:j / k<xs.length:=Nat.div_lt_of_lt_mul (by rw[am7]; exact aj);have af:j % k<k:=amc _ zX;refine⟨xs[j / k],(enc xs[j / k])[j % k]'(by rw[ax]; exact af),aka ad,aka _,?_⟩;have al:(xs.map enc)[j / k]? = some (enc xs[j / k]) :=by rw[akd,aka ad]; rfl
 have aG:=w3 (z:=k) (fun e ao=>by obtain⟨x,_,rfl⟩:=akz.1 ao; exact ax x) al af;rw[am7,Nat.div_add_mod] at aG;rw[aG];exact aka _
end

end Go.ca

namespace Go.ca
open Go
section
variable {P:Program} {l:ap} {aE:Operand->U}
@[simp ↓] theorem aiF:bO P aE l (.wb none)=some (.mp l.length,l++[.map [] 0]) :=id rfl
@[simp ↓] theorem aiA (c8:TypeId) (zero:U) (ok:Bool) (m k:Operand) :bO P aE l (.AG c8 zero ok m k)=dr l (AH P l c8 zero ok (aE m) (aE k)) :=id rfl
@[simp ↓] theorem aiH (c8:TypeId) (m k x:Operand) :bO P aE l (.x4 c8 m k x)=(v8 P l c8 (aE m) (aE k) (aE x)).map fun l'=>(ie,l') :=id rfl
@[simp ↓] theorem aiz (x:Operand) :bO P aE l (.xZ x)=dr l (DH l (aE x)) :=id rfl
@[simp ↓] theorem aiM (x:Operand) :bO P aE l (.yk x)=A6 l (aE x) :=id rfl
@[simp ↓] theorem aiK (x:Operand) :bO P aE l (.x7 x)=tT l (aE x) :=id rfl
@[simp ↓] theorem ahO (x:Option Operand) (v:U) (K:U->ap->Prop) :eg (.wb x) v l K=K v l:=id rfl
@[simp ↓] theorem ahJ (c8:TypeId) (zero:U) (ok:Bool) (m k:Operand) (v:U) (K:U->ap->Prop) :eg (.AG c8 zero ok m k) v l K=K v l:=id rfl
@[simp ↓] theorem ahQ (c8:TypeId) (m k x:Operand) (v:U) (K:U->ap->Prop) :eg (.x4 c8 m k x) v l K=K v l:=id rfl
@[simp ↓] theorem ahI (x:Operand) (v:U) (K:U->ap->Prop) :eg (.xZ x) v l K=K v l:=id rfl
@[simp ↓] theorem ahV (x:Operand) (v:U) (K:U->ap->Prop) :eg (.yk x) v l K=K v l:=id rfl
@[simp ↓] theorem ahT (x:Operand) (v:U) (K:U->ap->Prop) :eg (.x7 x) v l K=K v l:=id rfl
end

section
variable {z:Nat} {l l' : ap} {v:U} {j:Nat} {es:List (List U)}
theorem u4 (h:bJ z l v j es) {by_:Nat} {x:U} {xs:List (List U)} (ai:dd l z x=some (xs.flatten,xs.length)) (rZ:∀ e∈xs,e.length=z) (aF:z≠0) (ep:by_≠0) (ed:(es.length+xs.length)*by_<=cF) :
  ∃ a4 cb l',fS l z by_ v x=some (a4,l')/\bJ z l' a4 cb (es++xs)/\l.length<=l'.length/\(∀ b,b<l.length->v=.aK\/b≠j->l'[b]? = l[b]?)/\(l.length<=cb\/(v≠.aK/\cb=j)\/a4=.aK)/\cw a4=(cw v&&xs.isEmpty) :=by
 by_cases aq:v=.aK
 ·subst aq;have ao:es=[] :=h.q.In;subst ao;obtain⟨a4,cb,l1,ad,af,al,aG,a6,bK⟩:=nf (.nil (z:=z) (l:=l) (l.length+1)) ai rZ aF ep ed;refine⟨a4,cb,l1,ad,af,al,fun b ag _=>aG b ag (by omega),?_,tF bK⟩;rcases a6 with a6 | a6
  ·exact .inl (by omega)
  ·exact .inl a6
 ·obtain⟨a4,cb,l1,ad,af,al,aG,a6,bK⟩:=nf h ai rZ aF ep ed;refine⟨a4,cb,l1,ad,af,al,fun b ag aD=>aG b ag (aD.resolve_left aq),?_,tF bK⟩;rcases a6 with a6 | a6
  ·exact .inr (.inl ⟨aq,a6⟩)
  ·exact .inl a6
theorem bJ.cc (h:bJ z l v j es) (aI:∀ b,b<l.length->b=j->l'[b]? = l[b]?) :bJ z l' v j es:=h.frame fun aj=>aI j aj rfl
theorem cM.vo {K:U->ap->Prop} (h:bJ z l v j es) (aq:cw v=false) (bj:K (.b1 z es) (l.set j .dead)) :cM v l (c:=⟨K⟩) :=by
 cases h with
 | nil j=>cases aq
 | ar j n cap sz cs es ag am aD aw ah c3 cR=>
 have aO:=b9 ag;have bh:(bM (l.set j .dead)).f j=.dead:=by rw[lg,alo,if_pos rfl,if_pos aO]
 have er:n*z<=cap*z:=akc _ ah;refine .inr ⟨_,_,⟨by simp,fun bc=>?_⟩,.ar z j 0 n cap sz cs es (mH.2 ag) bh aD aw (by omega) (fun i k e c c' ao ax qu=>?_),bj⟩
 ·by_cases bX:bc=j
  ·subst bX; exact .inr ⟨sz,cs,mH.2 ag,.inl bh⟩
  ·left;rw[lg,lg,alo,if_neg (by omega)]
 ·have vJ:k<z:=by rw[<-aw e (ake ao)]; exact (aj7.1 ax).1
  have aB:=(aj7.1 ao).1;have hm:i*z+z<=n*z:=by rw[<-akK]; exact akc _ (by omega)
  have ad:=w3 aw ao vJ;rw[<-cR,aku (by omega),ax] at ad;rw[alf,ad] at qu;cases qu;exact .same _
end
inductive lS where
 | b
 | i (k:IntKind)
 | s
def Jy:lS->U->Bool
 | .b,.bool _=>true
 | .i k,.int k' _=>decide (k=k')
 | .s,.str _=>true
 | _,_=>false
def iy:List lS->List U->Bool
 | [],[]=>true
 | k::b7,c::cs=>Jy k c&&iy b7 cs
 | _,_=>false
theorem AR:∀ {b7:List lS} {cs:List U},iy b7 cs=true->cs.length=b7.length
 | [],[],_=>rfl
 | [],_::_,h=>by cases h
 | _::_,[],h=>by cases h
 | k::b7,c::cs,h=>by simp only[iy,akh] at h; simp[AR h.2]
theorem AU:∀ {l r:List lS} {m:List U},iy (l++r) m=true->∃ dJ dy,m=dJ++dy/\iy l dJ=true/\iy r dy=true
 | [],r,m,h=>⟨[],m,rfl,rfl,h⟩
 | k::l,r,[],h=>by cases h
 | k::l,r,c::m,h=>by
  simp only[ak6,iy,akh] at h;obtain⟨dJ,dy,rfl,ad,af⟩:=AU h.2;exact⟨c::dJ,dy,rfl,by simp[iy,h.1,ad],af⟩
theorem O4 {k:IntKind} {xs:List U} (h:iy [.i k] xs=true) :∃ p,xs=[.int k p] :=by
 cases xs with
 | nil=>cases h
 | cons c r=>
  simp only[iy,akh] at h;cases r with
  | cons _ _=>cases h.2
  | nil=>
   cases c<;>simp only[Jy] at h<;>try (cases h.1; done)
   rename_i k' p;have ax:k=k':=by simpa using h.1
   subst ax;exact⟨p,rfl⟩
theorem Fj:∀ {iF ig jW o8:List U},iF.length=ig.length->e0 (iF++jW) (ig++o8)=(e0 iF ig&&e0 jW o8)
 | [],[],_,_,_=>by simp[e0]
 | [],_::_,_,_,h=>by simp at h
 | _::_,[],_,_,h=>by simp at h
 | a::iF,b::ig,jW,o8,h=>by
  simp only[akv,Nat.add_right_cancel_iff] at h;simp only[ak6,e0,Fj h,Bool.and_assoc]
section
variable (P:Program)
def DF (f:TypeId->Option (List lS)) :List Field->Nat->Option (List lS)
 | [],_=>some []
 | fd::fs,o=>match f fd.type,cC P fd.type with
  | some l,some z=>match fd.name != "_"&&Nat.beq fd.offset o&&Nat.beq l.length z with
   | true=>match DF f fs (o+z) with
    | some r=>some (l++r)
    | none=>none
   | false=>none
  | _,_=>none
def qR:Nat->TypeId->Option (List lS)
 | 0,_=>none
 | d+1,t=>match P.underlying t with
  | some .bool=>some [.b]
  | some (.int k)=>some [.i k]
  | some .string=>some [.s]
  | some (.array n e)=>match qR d e,cC P e with
   | some l,some z=>match Nat.beq l.length z with
    | true=>some (List.replicate n l).flatten
    | false=>none
   | _,_=>none
  | some (.struct fs)=>match P.stoodInHeld t with
   | false=>DF P (qR d) fs.toList 0
   | true=>none
  | _=>none
def ku (t:TypeId) (l:List U) :Option U:=match dZ P t with
 | some true=>some (.aH l)
 | some false=>l[0]?
 | none=>none
end
variable {P:Program}
theorem D8 {t:TypeId} {z:Nat} (aw:cC P t=some z) {pre mid post:List U} (hm:mid.length=z) (aA:dZ P t=some false->mid.length=1) :hz P t (pre++(mid++post)) pre.length=ku P t mid:=by
 unfold hz ku;rw[aw];cases aC:dZ P t with
 | none=>rfl
 | some g=>
  cases g with
  | true=>
   simp only;rw[if_pos (by simp; omega),List.drop_left,akP (by omega),aj9 (by omega)]
  | false=>
   have:=aA aC;simp only;rw[akt (by omega),amj,aj8 (by omega)]
def EqAt (P:Program) (f:TypeId->Option (List lS)) (eq:TypeId->U->U->Option Bool) :Prop:=
 ∀ t b7,f t=some b7->(dZ P t=some false->b7.length=1)/\∀ xs bL,iy b7 xs=true->iy b7 bL=true->∃ a b,ku P t xs=some a/\ku P t bL=some b/\eq t a b=some (e0 xs bL)
theorem Lu {f:TypeId->Option (List lS)} {eq:TypeId->U->U->Option Bool} (ao:EqAt P f eq) :∀ (fs:List Field) (o:Nat) (b7:List lS),DF P f fs o=some b7->∀ (nM nN cB nE:List U),nM.length=o->nN.length=o->iy b7 cB=true->iy b7 nE=true->
  ek.eqFields P eq (nM++cB) (nN++nE) fs=some (e0 cB nE)
 | [],o,b7,h,nM,nN,cB,nE,ai,aL,pQ,r6=>by
  cases h;cases cB with
  | nil=>cases nE with | nil=>rfl | cons _ _=>cases r6
  | cons _ _=>cases pQ
 | fd::fs,o,b7,h,nM,nN,cB,nE,ai,aL,pQ,r6=>by
  unfold DF at h;split at h
  ·rename_i l z am aw;split at h
   ·rename_i ah;simp only[akh,bne_iff_ne,ne_eq] at ah;split at h
    ·rename_i r ay;cases h;obtain⟨iF,jW,rfl,a2,bb⟩:=AU pQ;obtain⟨ig,o8,rfl,dn,dc⟩:=AU r6;have au:fd.offset=o:=alh ah.1.2;have C8:l.length=z:=alh ah.2;obtain⟨aN,aT⟩:=ao _ _ am;obtain⟨a,b,ph,rp,vi⟩:=aT iF ig a2 dn;have H7:=AR a2;have H8:=AR dn;unfold ek.eqFields;rw[if_neg ah.1.1,au];rw[show hz P fd.type (nM++(iF++jW)) o=some a by rw[<-ai,D8 aw (by omega) (fun h=>by rw[H7]; exact aN h)]; exact ph];rw[show hz P fd.type (nN++(ig++o8)) o=some b by rw[<-aL,D8 aw (by omega) (fun h=>by rw[H8]; exact aN h)]; exact rp];simp only[vi];rw[Fj (by omega)];have aQ:=Lu ao fs (o+z) r ay (nM++iF) (nN++ig) jW o8 (by simp; omega) (by simp; omega) bb dc;rw[akU,akU] at aQ;cases e0 iF ig with
     | true=>simpa using aQ
     | false=>simp
    ·cases h
   ·cases h
  ·cases h
theorem Lt {eq:TypeId->U->U->Option Bool} {e:TypeId} {l:List lS} {z:Nat} (aw:cC P e=some z) (C8:l.length=z) (aA:dZ P e=some false->l.length=1)
  (ao:∀ xs bL,iy l xs=true->iy l bL=true->∃ a b,ku P e xs=some a/\ku P e bL=some b/\eq e a b=some (e0 xs bL)) :∀ (n i:Nat) (nM nN cB nE:List U),nM.length=i*z->nN.length=i*z->iy (List.replicate n l).flatten cB=true->iy (List.replicate n l).flatten nE=true->
  ek.qq P eq e z (nM++cB) (nN++nE) n i=some (e0 cB nE)
 | 0,i,nM,nN,cB,nE,ai,aL,pQ,r6=>by
  simp only[List.replicate_zero,List.flatten_nil] at pQ r6;cases cB with
  | nil=>cases nE with | nil=>rfl | cons _ _=>cases r6
  | cons _ _=>cases pQ
 | n+1,i,nM,nN,cB,nE,ai,aL,pQ,r6=>by
  rw[akW,akT] at pQ r6;obtain⟨iF,jW,rfl,a2,bb⟩:=AU pQ;obtain⟨ig,o8,rfl,dn,dc⟩:=AU r6;obtain⟨a,b,ph,rp,vi⟩:=ao iF ig a2 dn;have H7:=AR a2;have H8:=AR dn;unfold ek.qq;rw[show hz P e (nM++(iF++jW)) (i*z)=some a by rw[<-ai,D8 aw (by omega) (fun h=>by rw[H7]; exact aA h)]; exact ph];rw[show hz P e (nN++(ig++o8)) (i*z)=some b by rw[<-aL,D8 aw (by omega) (fun h=>by rw[H8]; exact aA h)]; exact rp];simp only[vi];rw[Fj (by omega)];have aQ:=Lt aw C8 aA ao n (i+1) (nM++iF) (nN++ig) jW o8 (by simp[akK]; omega) (by simp[akK]; omega) bb dc;rw[akU,akU] at aQ;cases e0 iF ig with
  | true=>simpa using aQ
  | false=>simp
theorem FN:∀ (d D:Nat),d<=D->EqAt P (qR P d) (ek P D)
 | 0,D,_,t,b7,h=>by cases h
 | d+1,0,bh,t,b7,h=>by omega
 | d+1,D+1,bh,t,b7,h=>by
  have aQ:=FN d D (by omega);unfold qR at h;split at h
  ·rename_i aM;have aC:dZ P t=some false:=by unfold dZ; rw[aM]; rfl
   cases h;refine⟨fun _=>rfl,fun xs bL ai aL=>?_⟩
   match xs,bL,ai,aL with
   | [.bool p],[.bool q],_,_=>
    refine⟨.bool p,.bool q,by simp[ku,aC],by simp[ku,aC],?_⟩;unfold ek; rw[aM];cases p<;>cases q<;>rfl
  ·rename_i k aM;have aC:dZ P t=some false:=by unfold dZ; rw[aM]; rfl
   cases h;refine⟨fun _=>rfl,fun xs bL ai aL=>?_⟩;obtain⟨p,rfl⟩:=O4 ai;obtain⟨q,rfl⟩:=O4 aL
   ·refine⟨.int k p,.int k q,by simp[ku,aC],by simp[ku,aC],?_⟩;unfold ek; rw[aM];by_cases h:p=q<;>simp[e0,U.beq,h]
  ·rename_i aM;have aC:dZ P t=some false:=by unfold dZ; rw[aM]; rfl
   cases h;refine⟨fun _=>rfl,fun xs bL ai aL=>?_⟩
   match xs,bL,ai,aL with
   | [.str p],[.str q],_,_=>
    refine⟨.str p,.str q,by simp[ku,aC],by simp[ku,aC],?_⟩;unfold ek; rw[aM];by_cases h:p=q<;>simp[e0,U.beq,h]
  ·rename_i n e aM;have aC:dZ P t=some true:=by unfold dZ; rw[aM]; rfl
   split at h
   ·rename_i l z am aw;split at h
    ·rename_i C8;cases h;obtain⟨aN,aT⟩:=aQ _ _ am;refine⟨fun h=>(by rw[aC] at h; cases h),fun xs bL ai aL=>⟨.aH xs,.aH bL,by simp[ku,aC],by simp[ku,aC],?_⟩⟩;unfold ek; rw[aM];simp only[aw];exact Lt aw (alh C8) aN aT n 0 [] [] xs bL (by simp) (by simp) ai aL
    ·cases h
   ·cases h
  ·rename_i fs aM;have aC:dZ P t=some true:=by unfold dZ; rw[aM]; rfl
   split at h
   ·rename_i ak;refine⟨fun h=>(by rw[aC] at h; cases h),fun xs bL ai aL=>⟨.aH xs,.aH bL,by simp[ku,aC],by simp[ku,aC],?_⟩⟩;unfold ek; rw[aM];simp only[ak,ala,if_false];exact Lu aQ fs.toList 0 b7 h [] [] xs bL rfl rfl ai aL
   ·cases h
  ·cases h
theorem BP {t:TypeId} {b7:List lS} (ax:qR P 20 t=some b7) (aC:dZ P t=some true) (aA:P.eqGuardType P.depth t=false) {xs bL:List U} (ai:iy b7 xs=true) (aL:iy b7 bL=true) :fT P .eql t (.aH xs) (.aH bL)=some (.bool (e0 xs bL)) :=by
 obtain⟨a,b,ph,rp,vi⟩:=(FN (P:=P) 20 10000 (by omega) t b7 ax).2 xs bL ai aL;simp only[ku,aC,Option.some.injEq] at ph rp;subst ph; subst rp;exact SN aA vi
theorem KJ {t:TypeId} {b7:List lS} (ax:qR P 20 t=some b7) (aC:dZ P t=some true) (aA:P.eqGuardType P.depth t=false) {xs bL:List U} (ai:iy b7 xs=true) (aL:iy b7 bL=true) :fT P .neq t (.aH xs) (.aH bL)=some (.bool (!e0 xs bL)) :=by
 obtain⟨a,b,ph,rp,vi⟩:=(FN (P:=P) 20 10000 (by omega) t b7 ax).2 xs bL ai aL;simp only[ku,aC,Option.some.injEq] at ph rp;subst ph; subst rp;exact SO aA vi
end Go.ca

namespace Go.ca
open Go Go.Proofs Go.Shelf
structure aee (P:Program) (f:FuncId) (T I e z:Nat) :Prop where
 ajU:P.underlying T=some (.slice e)
 ajV:P.underlying I=some (.int .i64)
 l3:∀ (base:Option Addr) (n c iV mE sv:Nat) (r:Value) (w w' : World),n<=c->n<=4611686018427387904->(base=none->n=0/\c=0)->
  (Builtin.append_ #[T,T] T #[.slice base n c,.slice (some ⟨mE,sv,none⟩) 1 iV]).run P w=.ok r w'->
  Calls P f #[.slice base n c,.int .i64 n,.slice (some ⟨mE,sv,none⟩) 1 iV] w fun x w2=>x=.returned r/\w2=w'
 shift:∀ (b off n c i mE sv iV:Nat) (b4 cx:Value) (w yL nd:World) (acT fy:TypeId) (DD Oo:Nat),i<n->n+1<=c->n<=4611686018427387904->mE≠b->
  w.shape? mE=some (acT,DD)->w.shape? b=some (fy,Oo)->Oo≠0->w.frozen? ⟨mE,sv,none⟩=false->w.frozen? ⟨mE,DD,none⟩=false->
  (Builtin.copy_ #[T,T] I #[.slice (some ⟨b,off+(i+1)*z,none⟩) (n - i) (c - (i+1)),.slice (some ⟨b,off+i*z,none⟩) (n+1 - i) (c - i)]).run P w.drew=.ok b4 yL->
  (Builtin.copy_ #[T,T] I #[.slice (some ⟨b,off+i*z,none⟩) (n+1 - i) (c - i),.slice (some ⟨mE,sv,none⟩) 1 iV]).run P yL=.ok cx nd->
  Calls P f #[.slice (some ⟨b,off,none⟩) n c,.int .i64 i,.slice (some ⟨mE,sv,none⟩) 1 iV] w fun x w2=>x=.returned (.slice (some ⟨b,off,none⟩) (n+1) c)/\w2=nd
 grow:∀ (b off n c i mE sv iV N G:Nat) (b4 cx:Value) (w J9 yL nd:World),i<n->n<=c->c<n+1->n+1<=G->n<=4611686018427387904->
  (Builtin.append_ #[T,I] T #[.slice (some ⟨b,off,none⟩) i c,.int .i64 ((n:Int)+1 - (i:Int))]).run P w=.ok (.slice (some ⟨N,0,none⟩) (n+1) G) J9->
  (Builtin.copy_ #[T,T] I #[.slice (some ⟨N,i*z,none⟩) (n+1 - i) (G - i),.slice (some ⟨mE,sv,none⟩) 1 iV]).run P J9=.ok b4 yL->
  (Builtin.copy_ #[T,T] I #[.slice (some ⟨N,(i+1)*z,none⟩) (n - i) (G - (i+1)),.slice (some ⟨b,off+i*z,none⟩) (n - i) (c - i)]).run P yL.drew=.ok cx nd->
  Calls P f #[.slice (some ⟨b,off,none⟩) n c,.int .i64 i,.slice (some ⟨mE,sv,none⟩) 1 iV] w fun x w2=>x=.returned (.slice (some ⟨N,0,none⟩) (n+1) G)/\w2=nd
section
variable {P:Program} {G:Nat->U} {R:Nat->Prop} {B:Nat} {w:World} {h:aW} {μ:cI}
end

end Go.ca

namespace Go.ca
open Go
section
variable (P:Program)
abbrev qf:=List (List Nat)
def QV (ops:Array Oper) (o:Oper) (i:Nat) (hp:List Nat) (cc:Bool) :ei:=
 let g:=match o.guard with | none=>none | some fm=>some (match ops[fm.1]? with | some df=>df.dst | none=>none,fm.2)
 match lX P o.op with
 | some m=>⟨i,o.dst,g,.hj m,hp,cc⟩
 | none=>match o.op with
  | .call c=>match c.callee with
   | .value (.func f)=>⟨i,o.dst,g,.ni f c.args.toList,hp,cc⟩
   | .value x=>⟨i,o.dst,g,.nj x c.args.toList,hp,cc⟩
   | .invoke x name=>⟨i,o.dst,g,.oc x name c.args.toList,hp,cc⟩
   | _=>⟨i,none,none,.hj .stop,[],false⟩
  | _=>⟨i,none,none,.hj .stop,[],false⟩
def QY (ops:Array Oper) :List Oper->Nat->List ei
 | [],_=>[]
 | o::r,i=>QV P ops o i [] false::QY ops r (i+1)
def Oj (i:Nat) :List Nat->Bool
 | []=>false
 | x::r=>match Nat.beq i x with | true=>true | false=>Oj i r
def Ov (i:Nat) :qf->Bool
 | []=>false
 | p::r=>match Oj i p.tail with | true=>true | false=>Ov i r
def Kn:qf->Bool
 | []=>false
 | p::r=>match p.tail with | []=>Kn r | _=>true
def Jq (ops:Array Oper) (q:qf) (n:Nat) :qf->List ei
 | []=>QY P ops (ops.toList.drop n) n
 | p::r=>(match p with
  | []=>⟨0,none,none,.hj .stop,[],false⟩
  | i::c=>match ops[i]? with | some o=>QV P ops o i c (Ov i q) | none=>⟨0,none,none,.hj .stop,[],false⟩) ::Jq ops q n r
def IY (ops:Array Oper) (p:qf) :hM:=match Kn p with
 | true=>.zd (Jq P ops p p.length p)
 | false=>.yh (Jq P ops p p.length p)
def acC (a b:hM) :hM:=match a with
 | .skip=>b
 | a=>match b with
  | .skip=>a
  | b=>.seq a b
def tM:Code->List qf->hM × List qf
 | .skip,p=>(.skip,p)
 | .label _,p=>(.skip,p)
 | .ret,p=>(.ret,p)
 | .exit id,p=>(.exit id,p)
 | .region _ ops true,p=>match p with
  | []=>(IY P ops [],[])
  | x::p=>(IY P ops x,p)
 | .region _ ops false,p=>(IY P ops [],p)
 | .seq a b,p=>match tM a p with | (a,p)=>match tM b p with | (b,p)=>(acC a b,p)
 | .cond c a b,p=>match tM a p with | (a,p)=>match tM b p with | (b,p)=>(.cond c a b,p)
 | .block id c,p=>match tM c p with | (c,p)=>(.block id c,p)
 | .loop c,p=>match tM c p with | (c,p)=>(.loop c,p)
 | .scope c,p=>tM c p
 | _,p=>(.skip,p)
def DI (fn:Func) (p:List qf) :hM:=match fn.body with
 | some c=>(tM P c p).1
 | none=>.skip
def AF:List ResultVar->List dK
 | []=>[]
 | x::r=>(match FA P x with | some m=>m | none=>.stop) ::AF r
end
theorem Qf (x:U) (t:List U) :x::x::x::x::x::x::x::x::x::x::x::x::x::x::x::x::x::x::x::x::x::x::x::x::x::x::x::x::x::x::x::x::t=rep 32 x++t:=rfl
theorem Qg (x:U) (t:List U) :rep 32 x++(rep 32 x++t)=rep 64 x++t:=rfl
theorem U0 {P:Program} {f:FuncId} {fn:Func} (aI:P.funcs[f]? = some fn) (p:List qf) {c:hM} {ms:List dK}
  (ah:DI P fn p=c:=by conv=>lhs; (cbv; try simp only[Qf,Qg,akQ]))
  (ay:AF P fn.results.toList=ms:=by conv=>lhs; cbv)
  (ax:(B2 P f,B3 P f)=(some (DI P fn p),some (AF P fn.results.toList)) :=by kernel_rfl)
  {G:Nat->U} {args:List U} {l:ap} {K:rh} (h:run P G c (BL args) l (AA P G ms K.k)) :dg P G f args l (c:=K) :=by
 rw[ah,ay] at ax;exact KX (Prod.mk.inj ax).1 (Prod.mk.inj ax).2 h
theorem bf {P:Program} {f:FuncId} {fn:Func} (aI:P.funcs[f]? = some fn) (p:List qf) {T:Tables} {F:Array Func} {c:hM} {ms:List dK} (gH:P=⟨T,F⟩:=by rfl)
  (ah:DI ⟨T,#[]⟩ fn p=c:=by conv=>lhs; (cbv; try simp only[Qf,Qg,akQ]))
  (ay:AF ⟨T,#[]⟩ fn.results.toList=ms:=by conv=>lhs; cbv)
  (ax:(B2 P f,B3 P f)=(some (DI ⟨T,#[]⟩ fn p),some (AF ⟨T,#[]⟩ fn.results.toList)) :=by kernel_rfl)
  {G:Nat->U} {args:List U} {l:ap} {K:rh} (h:run P G c (BL args) l (AA P G ms K.k)) :dg P G f args l (c:=K) :=by
 rw[ah,ay] at ax;exact KX (Prod.mk.inj ax).1 (Prod.mk.inj ax).2 h
end Go.ca

namespace Go.ca
open Go
namespace hN
abbrev W:=BitVec 32
abbrev B:=BitVec 8
def mu (x:W) (n:Nat) :W:=(x >>> n) ||| (x <<< (32 - n))
def nY (l:List B) :W:=l.foldl (fun a x=>(a <<< 8) ||| x.setWidth 32) 0#32
def part (b:List B) (k t:Nat) :W:=nY (((b.take k).drop (4*t)).take 4)
def e4 (b:List B) :List W:=(List.range 16).map fun t=>nY ((b.drop (4*t)).take 4)
def ext (w:List W) :W:=
 let t:=w.length
 let x:=w.getD (t - 15) 0#32
 let y:=w.getD (t - 2) 0#32
 w.getD (t - 16) 0#32+w.getD (t - 7) 0#32+(mu x 7 ^^^ mu x 18 ^^^ (x >>> 3))+(mu y 17 ^^^ mu y 19 ^^^ (y >>> 10))
def h5:Nat->List W->List W
 | 0,w=>w
 | n+1,w=>h5 n (w++[ext w])
def e9 (b:List B) :List W:=h5 48 (e4 b)
def Ig (x:W) (i j k:Nat) :W:=mu x i ^^^ mu x j ^^^ mu x k
structure et where
 (a b c d e f g h:W)
def round (s:et) (k w:W) :et:=
 let p:=s.h+Ig s.e 6 11 25+((s.e &&& s.f) ^^^ (~~~s.e &&& s.g))+k+w
 let q:=Ig s.a 2 13 22+((s.a &&& s.b) ^^^ (s.a &&& s.c) ^^^ (s.b &&& s.c))
 ⟨p+q,s.a,s.b,s.c,s.d+p,s.e,s.f,s.g⟩
def rounds:et->List W->List W->et
 | s,k::b7,w::gX=>rounds (round s k w) b7 gX
 | s,_,_=>s
def table:List Nat:=[0x428a2f98,0x71374491,0xb5c0fbcf,0xe9b5dba5,0x3956c25b,0x59f111f1,0x923f82a4,0xab1c5ed5,0xd807aa98,0x12835b01,0x243185be,0x550c7dc3,0x72be5d74,0x80deb1fe,0x9bdc06a7,0xc19bf174,0xe49b69c1,0xefbe4786,0x0fc19dc6,0x240ca1cc,0x2de92c6f,0x4a7484aa,0x5cb0a9dc,0x76f988da,0x983e5152,0xa831c66d,0xb00327c8,0xbf597fc7,0xc6e00bf3,0xd5a79147,0x06ca6351,0x14292967,0x27b70a85,0x2e1b2138,0x4d2c6dfc,0x53380d13,0x650a7354,0x766a0abb,0x81c2c92e,0x92722c85,0xa2bfe8a1,0xa81a664b,0xc24b8b70,0xc76c51a3,0xd192e819,0xd6990624,0xf40e3585,0x106aa070,0x19a4c116,0x1e376c08,0x2748774c,0x34b0bcb5,0x391c0cb3,0x4ed8aa4a,0x5b9cca4f,0x682e6ff3,0x748f82ee,0x78a5636f,0x84c87814,0x8cc70208,0x90befffa,0xa4506ceb,0xbef9a3f7,0xc67178f2]
def b7:List W:=table.map (BitVec.ofNat 32)
def grind (h:et) (b:List B) :et:=
 let v:=rounds h b7 (e9 b)
 ⟨h.a+v.a,h.b+v.b,h.c+v.c,h.d+v.d,h.e+v.e,h.f+v.f,h.g+v.g,h.h+v.h⟩
def Fo:Nat->et->List B->et × List B
 | 0,h,b=>(h,b)
 | n+1,h,b=>if 64<=b.length then Fo n (grind h (b.take 64)) (b.drop 64) else (h,b)
def ha (h:et) (b:List B) :et × List B:=Fo (b.length / 64) h b
def first:et:=⟨0x6a09e667#32,0xbb67ae85#32,0x3c6ef372#32,0xa54ff53a#32,0x510e527f#32,0x9b05688c#32,0x1f83d9ab#32,0x5be0cd19#32⟩
def yU (n:BitVec 64) :List B:=[(n >>> 56).setWidth 8,(n >>> 48).setWidth 8,(n >>> 40).setWidth 8,(n >>> 32).setWidth 8,(n >>> 24).setWidth 8,(n >>> 16).setWidth 8,(n >>> 8).setWidth 8,(n >>> 0).setWidth 8]
def tail (n:Nat) :List B:=128#8::List.replicate ((119 - n % 64) % 64) 0#8++yU (BitVec.ofNat 64 n*8#64)
def sw (w:W) :List B:=[(w >>> 24).setWidth 8,(w >>> 16).setWidth 8,(w >>> 8).setWidth 8,w.setWidth 8]
def et.l (s:et) :List W:=[s.a,s.b,s.c,s.d,s.e,s.f,s.g,s.h]
def written (s:et) :List B:=(s.l.map sw).flatten
def ib (b:List B) :List B:=written (ha first (b++tail b.length)).1
theorem adO (l:List B) (x:B) :nY (l++[x])=(nY l <<< 8) ||| x.setWidth 32:=by simp[nY,amB]
theorem vk:∀ (n:Nat) (w:List W),(h5 n w).length=w.length+n
 | 0,w=>rfl
 | n+1,w=>by rw[h5,vk n]; simp; omega
theorem Bd (b:List B) :(e9 b).length=64:=by rw[e9,vk]; simp[e4]
theorem EP (s:et) :(written s).length=32:=rfl
theorem us (b:List B) :(ib b).length=32:=rfl
theorem FP:∀ (n:Nat) (w:List W),h5 (n+1) w=h5 n w++[ext (h5 n w)]
 | 0,w=>rfl
 | n+1,w=>by rw[h5,FP n (w++[ext w])]; rfl
theorem Es (a:W) (x:B) :(a <<< 8) ||| x.setWidth 32=a*256#32+x.setWidth 32:=by
 apply akk;have ai:x.toNat<256:=x.isLt;have aC:=a.isLt;rw[BitVec.toNat_or,alp,am8,al3,akq];have ad:x.toNat % 2 ^ 32=x.toNat:=akn (by omega);have af:a.toNat <<< 8 % 2 ^ 32=(a.toNat % 2 ^ 24) <<< 8:=by rw[alm,alm]; omega
 have al:=amP (b:=x.toNat) (i:=8) (by omega) (a.toNat % 2 ^ 24);rw[ad,af,<-al,alm];have aG:(256#32).toNat=256:=rfl;rw[aG];omega
theorem yS (h:et) (b:List B) (ag:64<=b.length) :ha h b=ha (grind h (b.take 64)) (b.drop 64) :=by
 have:b.length / 64=(b.drop 64).length / 64+1:=by simp; omega
 rw[ha,this,Fo,if_pos ag];rfl
theorem BS (h:et) (b:List B) (ag:b.length<64) :ha h b=(h,b) :=by
 rw[ha,alq ag]; rfl
theorem SS (h:et) (b:List B) :(ha h b).2.length=b.length % 64:=by
 generalize aD:b.length=n
 induction n using Nat.strongRecOn generalizing h b with
 | _ n aQ=>
  rcases akX b.length 64 with ad | ad
  ·rw[BS h b ad,akn (by omega)]; exact aD
  ·rw[yS h b ad,aQ (b.length - 64) (by omega) _ (b.drop 64) (by simp)];omega
theorem KL (h:et) (a b:List B) :ha h (a++b)=ha (ha h a).1 ((ha h a).2++b) :=by
 generalize aD:a.length=n
 induction n using Nat.strongRecOn generalizing h a with
 | _ n aQ=>
  rcases akX a.length 64 with ad | ad
  ·rw[BS h a ad]
  ·rw[yS h a ad,yS h (a++b) (by simp; omega),akP ad,alb ad];exact aQ (a.length - 64) (by omega) _ (a.drop 64) (by simp)
end hN

end Go.ca

namespace Go.ca
open Go Go.Proofs
def yr:List U:=hN.b7.map bp
def GS:Nat->U:=fun g=>match Nat.beq g 1 with | true=>.cg yr 0 | false=>.bad
theorem bx:∀ g,(GS g).closed=true:=by
 intro g;unfold GS;split
 ·exact ln bp (fun _=>rfl) _
 ·rfl
@[simp]
theorem aed:GS 1=.cg yr 0:=id rfl
theorem acV (i:Nat) (h:i<64) :yr[i]? = some (bp (hN.b7.getD i 0#32)) :=by
 have am:hN.b7.length=64:=rfl;unfold yr;rw[akd,ako,aka (by omega)];rfl
end Go.ca

namespace Go.ca
open Go Go.Proofs
set_option maxRecDepth 100000
namespace hN
def I1 (x:W) (k:Int) :W:=(x <<< (BitVec.ofInt 64 k &&& 31#64).toNat) ||| (x >>> (32#64 - (BitVec.ofInt 64 k &&& 31#64)).toNat)
theorem wj (x:W) (n:Nat) (aF:0<n) (h:n<32) :I1 x (-(n:Int))=mu x n:=by
 have ad:∀ n:Fin 32,0<n.val->(BitVec.ofInt 64 (-(n.val:Int)) &&& 31#64)=BitVec.ofNat 64 (32 - n.val) :=by decide
 have af:=ad ⟨n,h⟩ aF;simp only at af;unfold I1 mu;rw[af,BitVec.or_comm];congr 2
 ·have:∀ n:Fin 32,0<n.val->(32#64 - BitVec.ofNat 64 (32 - n.val)).toNat=n.val:=by decide
  exact this ⟨n,h⟩ aF
 ·have:∀ n:Fin 32,0<n.val->(BitVec.ofNat 64 (32 - n.val)).toNat=32 - n.val:=by decide
  exact this ⟨n,h⟩ aF
theorem wi (x:W) (k:Int) :bn Tryz.prog GS 230 [bp x,.int .i64 k] (bp (I1 x k)) :=by
 refine bD Tryz.checked.mixed bx ?_;apply bf Tryz.func230 [];simp;exact aJ rfl rfl
theorem ON (x:W) (i j k:Nat) (aB:0<i/\i<32) (aj:0<j/\j<32) (ax:0<k/\k<32) :bn Tryz.prog GS 213 [bp x,.int .i64 i,.int .i64 j,.int .i64 k] (bp (Ig x i j k)) :=by
 refine bD Tryz.checked.mixed bx ?_;apply bf Tryz.func213 [];have aD:∀ n:Nat,n<32->IntKind.i64.wrap (-(n:Int))=-(n:Int) :=fun n aD=>wrap_i64 (by omega) (by omega)
 simp[aD i aB.2];refine aY (wi x _) rfl ?_;simp[aD j aj.2];refine aY (wi x _) rfl ?_;simp[aD k ax.2];refine aY (wi x _) rfl ?_;simp[wj x _ aB.1 aB.2,wj x _ aj.1 aj.2,wj x _ ax.1 ax.2];exact aJ rfl rfl
def b0 (x:B) :List U:=[bz x]
abbrev eN:=cT B
abbrev cu (s:eN) :U:=ct 1 b0 s
theorem lo (s:eN) :(cu s).closed=true:=y3 (fun _=>rfl) s
def nZ (b:List B) (k:Nat) :List W:=((List.range 16).map fun t=>nY (((b.take k).drop (4*t)).take 4))++List.replicate 48 0#32
theorem RH (b:List B) (k:Nat) :(nZ b k).length=64:=by simp[nZ]
theorem ad1 (b:List B) :nZ b 0=List.replicate 64 0#32:=by simp[nZ,nY]; rfl
theorem JQ (b:List B) (k t:Nat) (a3:t<16) :(nZ b k)[t]? = some (nY (((b.take k).drop (4*t)).take 4)) :=by
 unfold nZ;rw[aj8 (by simpa using a3),akd,akL a3];rfl
theorem ad0 (b:List B) (k:Nat) (ax:k<64) (ag:k<b.length) (x:B) (ai:b[k]? = some x) :
  (nZ b k).set (k / 4) ((nY (((b.take k).drop (4*(k / 4))).take 4) <<< 8) ||| x.setWidth 32)=nZ b (k+1) :=by
 apply akY;intro t;rw[alo,RH];have N9:b.take (k+1)=b.take k++[x] :=by rw[akC,ai]; rfl
 have bC:(b.take k).length=k:=by simp; omega
 by_cases a3:t<16
 ·rw[JQ b _ t a3,JQ b _ t a3];by_cases h:k / 4=t
  ·rw[if_pos h,if_pos (by omega),<-adO,N9,h];congr 2;rw[alb (by omega)];obtain⟨A,dQ⟩:∃ A,A=List.drop (4*t) (List.take k b) :=⟨_,rfl⟩
   have j4:A.length<4:=by rw[dQ]; simp; omega
   rw[<-dQ,aj9 (by omega),aj9 (by simp; omega)]
  ·rw[if_neg h,N9];congr 2;rcases akX k (4*t) with ad | ad
   ·rw[ak3 (by omega),ak3 (by simp; omega)]
   ·rw[alb (by omega),akP (by simp; omega)]
 ·rw[if_neg (by omega)];unfold nZ;rw[akt (by simp; omega),akt (by simp; omega)];simp
theorem adZ (b:List B) (ag:64<=b.length) :nZ b 64=e4 b++List.replicate 48 0#32:=by
 unfold nZ e4;congr 1;apply alD;intro t a3;have:=akM.1 a3;congr 1;rw[ami,amk,ak7 (by omega)]
def oX (b:List B) (k:Nat) :List W:=h5 k (e4 b)++List.replicate (48 - k) 0#32
theorem ab9 (b:List B) (k:Nat) (ax:k<=48) :(oX b k).length=64:=by simp[oX,vk,e4]; omega
theorem Er (b:List B) (k i:Nat) (aB:i<16+k) :(oX b k)[i]? = some ((h5 k (e4 b)).getD i 0#32) :=by
 unfold oX;have am:(h5 k (e4 b)).length=16+k:=by simp[vk,e4]
 rw[aj8 (by omega),ako,aka (by omega)];rfl
theorem aca (b:List B) (k:Nat) (ax:k<48) :(oX b k).set (16+k) (ext (h5 k (e4 b)))=oX b (k+1) :=by
 have am:(h5 k (e4 b)).length=16+k:=by simp[vk,e4]
 unfold oX;rw[alc _ _ (by omega),am,amj,show 48 - k=(48 - (k+1))+1 by omega,akW,al9,FP];simp
set_option maxHeartbeats 4000000 in
theorem acd (b:List B) (ag:64<=b.length) :bn Tryz.prog GS 212 [cu (some b)] (.aH ((e9 b).map bp)) :=by
 refine bD Tryz.checked.mixed bx ?_;apply bf Tryz.func212 [];have bq:e3 (.ar 1) (cu (some b)) none (some (.int .i64 64)) none=some (cu (some (b.take 64))) :=by
  unfold cu; rw[QJ (by omega) (by omega)]; rfl
 have xC:min 64 b.length=64:=by omega
 simp[bq,xC];refine cm 64 (fun k ae l=>ae 2=.ptr 0 0 64/\ae 11=cu (some (b.take 64))/\ae 12=.int .i64 64/\ae 13=.int .i64 k/\l=[.cells 64 ((nZ b k).map bp)]) ?_ ?_
 ·rintro k ae l ax ⟨aT,ju,kw,kx,rfl⟩;obtain⟨ae,rfl⟩:=h1 aT ju kw kx;clear aT ju kw kx;simp;by_cases h:(k:Int)<64
  ·obtain⟨x,ai⟩:∃ x,b[k]? = some x:=⟨_,aka (by omega)⟩
   have Ao:(b.take 64)[k]? = some x:=by rw[aku (by omega)]; exact ai
   have bU:cN (.ar 1) (cu (some (b.take 64))) (.int .i64 k)=some (.cg (b0 x) 0) :=by simp[cu,r1,Ao]
   obtain⟨q,Hg⟩:∃ q,q=k / 4:=⟨_,rfl⟩
   have a8:cj .quo .i64 (k:Int) .i64 4=some (.int .i64 (q:Int)) :=by rw[Hg]; exact Fq k 4 (by omega) (by omega)
   have eT:IntKind.i64.wrap ((k:Int)+1)=k+1:=wrap_i64 (by omega) (by omega);have aO:(q:Int)<64:=by omega
   have aA:=JQ b k q (by omega);have ak:=nP bp (nZ b k) q (((nY (((b.take k).drop (4*q)).take 4) <<< 8) ||| x.setWidth 32)) (by rw[RH]; omega);rw[Hg,ad0 b k (by omega) (by omega) x ai,<-Hg] at ak;have er:q+1<=64:=by omega
   simp[h,bU,b0,a8,aO,aA,er,eT,ak];omega
  ·have vH:k=64:=by omega
   subst vH;simp;refine cm 48 (fun j ae l=>ae 2=.ptr 0 0 64/\ae 5=.int .i64 (16+j:Nat)/\l=[.cells 64 ((oX b j).map bp)]) ?_ ?_
   ·rintro j ae l aj ⟨aT,bg,rfl⟩;obtain⟨ae,rfl⟩:=o6 aT bg;clear aT bg;obtain⟨t,a3⟩:∃ t,t=16+j:=⟨_,rfl⟩
    rw[<-a3];simp;by_cases h:(t:Int)<64
    ·have qF:IntKind.i64.wrap ((t:Int)+1)=(t+1:Nat) :=wrap_i64 (by omega) (by omega);have EH:IntKind.i64.wrap ((t:Int) - 15)=(t - 15:Nat) :=by rw[wrap_i64 (by omega) (by omega)]; omega
     have w2:IntKind.i64.wrap ((t:Int) - 2)=(t - 2:Nat) :=by rw[wrap_i64 (by omega) (by omega)]; omega
     have EI:IntKind.i64.wrap ((t:Int) - 16)=(t - 16:Nat) :=by rw[wrap_i64 (by omega) (by omega)]; omega
     have Bq:IntKind.i64.wrap ((t:Int) - 7)=(t - 7:Nat) :=by rw[wrap_i64 (by omega) (by omega)]; omega
     have am:(h5 j (e4 b)).length=t:=by simp[vk,e4]; omega
     have rr:=Er b j (t - 15) (by omega);have aT:=Er b j (t - 2) (by omega);have w5:=Er b j (t - 16) (by omega);have ez:=Er b j (t - 7) (by omega);have ak:=nP bp (oX b j) t (ext (h5 j (e4 b))) (by rw[ab9 b j (by omega)]; omega);rw[a3,aca b j (by omega),<-a3] at ak;unfold ext at ak;rw[am] at ak
     dsimp only at ak
     obtain⟨tB,FG⟩:∃ i,i=t - 15:=⟨_,rfl⟩
     obtain⟨dx,bv⟩:∃ i,i=t - 2:=⟨_,rfl⟩
     obtain⟨tC,B5⟩:∃ i,i=t - 16:=⟨_,rfl⟩
     obtain⟨hV,FH⟩:∃ i,i=t - 7:=⟨_,rfl⟩
     rw[<-FG] at EH rr ak;rw[<-bv] at w2 aT ak;rw[<-B5] at EI w5 ak;rw[<-FH] at Bq ez ak;have Ff:(tB:Int)<64:=by omega
     have dc:(dx:Int)<64:=by omega
     have Fg:(tC:Int)<64:=by omega
     have ql:(hV:Int)<64:=by omega
     have er:t+1<=64:=by omega
     generalize (h5 j (e4 b)).getD tB 0#32=x at rr ak;generalize (h5 j (e4 b)).getD dx 0#32=y at aT ak;generalize (h5 j (e4 b)).getD tC 0#32=JU at w5 ak;generalize (h5 j (e4 b)).getD hV 0#32=JV at ez ak;have PS:=wj x 7 (by omega) (by omega);have PQ:=wj x 18 (by omega) (by omega);have PP:=wj y 17 (by omega) (by omega);have PR:=wj y 19 (by omega) (by omega);simp at PS PQ PP PR;simp[h,EH,w2,rr,aT,Ff,dc];refine aY (wi _ _) rfl ?_;simp;refine aY (wi _ _) rfl ?_;simp;refine aY (wi _ _) rfl ?_;simp;refine aY (wi _ _) rfl ?_;simp[PS,PQ,PP,PR,EI,Bq,w5,ez,Fg,ql,h,ak,qF,er];omega
    ·have WJ:j=48:=by omega
     have XL:oX b 48=e9 b:=by simp[oX,e9]
     subst WJ;have zZ:=Bd b;rw[XL];simp[h,zZ,mz,aj9];exact aJ rfl (K4 bp (fun _=>rfl) _)
   ·simp[oX,h5,adZ b ag]
 ·simp[ad1,Qi _ 32]
theorem adX (b:List B) (n:Nat) (aD:64<=n) :e4 (b.take n)=e4 b:=by
 unfold e4;apply alD;intro t a3;have:=akM.1 a3;congr 1;rw[ami,amk,ak7 (by omega)]
theorem acb (b:List B) (n:Nat) (aD:64<=n) :e9 (b.take n)=e9 b:=by unfold e9; rw[adX b n aD]
theorem rounds_succ:∀ (k:Nat) (s:et) (a b:List W) (x y:W),a[k]? = some x->b[k]? = some y->rounds s (a.take (k+1)) (b.take (k+1))=round (rounds s (a.take k) (b.take k)) x y
 | 0,s,a,b,x,y,aC,ag=>by
  cases a with
  | nil=>simp at aC
  | cons a Ki=>
   cases b with
   | nil=>simp at ag
   | cons b bs=>simp at aC ag; subst aC ag; simp[rounds]
 | k+1,s,a,b,x,y,aC,ag=>by
  cases a with
  | nil=>simp at aC
  | cons a Ki=>
   cases b with
   | nil=>simp at ag
   | cons b bs=>
    simp only[List.take_succ_cons,rounds];exact rounds_succ k _ Ki bs x y (by simpa using aC) (by simpa using ag)
def lJ (h:et) (b:List B) (k:Nat) :et:=rounds h (b7.take k) ((e9 b).take k)
theorem PV (h:et) (b:List B) :lJ h b 0=h:=rfl
theorem PU (h:et) (b:List B) (k:Nat) (ax:k<64) :lJ h b (k+1)=round (lJ h b k) (b7.getD k 0#32) ((e9 b).getD k 0#32) :=by
 have ad:b7.length=64:=rfl;have af:=Bd b;refine rounds_succ k h b7 (e9 b) _ _ ?_ ?_
 ·rw[ako,aka (by omega)]; rfl
 ·rw[ako,aka (by omega)]; rfl
theorem PT (h:et) (b:List B) :lJ h b 64=rounds h b7 (e9 b) :=by
 have ad:b7.length=64:=rfl;have af:=Bd b;unfold lJ;rw[aj9 (by omega),aj9 (by omega)]
def ij (a b:List W) (k:Nat) :List W:=(List.zipWith (·+·) a b).take k++a.drop k
theorem Kf (a b:List W) :ij a b 0=a:=rfl
theorem E7 {a b:List W} (h:a.length=b.length) (k:Nat) :(ij a b k).length=a.length:=by simp[ij]; omega
theorem Kd {a b:List W} (h:a.length=b.length) {k:Nat} (ax:k<a.length) :(ij a b k)[k]? = a[k]?:=by
 unfold ij;rw[akt (by simp; omega)];have:(List.take k (List.zipWith (·+·) a b)).length=k:=by simp; omega
 rw[this,akG]; simp
theorem Ke {a b:List W} (h:a.length=b.length) {k:Nat} {x y:W} (ai:a[k]? = some x) (aL:b[k]? = some y) :(ij a b k).set k (x+y)=ij a b (k+1) :=by
 have ax:=(aj7.1 ai).1;unfold ij;have am:(List.take k (List.zipWith (·+·) a b)).length=k:=by simp; omega
 have aw:(List.zipWith (·+·) a b)[k]? = some (x+y) :=by rw[List.getElem?_zipWith,ai,aL]
 rw[alc _ _ (by omega),am,amj,ale ax,al9,akC,aw];simp
set_option maxHeartbeats 8000000 in
theorem U3 {h:et} {b:List B} (ag:64<=b.length) {l:ap} {bk sz:Nat} {rest:List U} {x:U} {K:U->ap->Prop} (am:l[bk]? = some (.cells sz (h.l.map bp++rest))) (hv:8<=sz) (ai:fR (bM l) x (cu (some b)))
  (bj:∀ junk,K (.bu []) (l.set bk (.cells sz ((grind h b).l.map bp++rest))++junk)) :dg Tryz.prog GS 192 [.ptr bk 0 sz,x] l (c:=⟨K⟩) :=by
 apply bf Tryz.func192 [[],[[0],[1],[4],[5],[6],[7],[8],[9],[10],[11],[13],[14],[15],[17],[18],[19],[2,19,15],[3],[12],[16]]];simp;refine kQ (acd b ag) (.cons ai .nil) (LI bp (fun _=>rfl) _) ?_;have aD:=b9 am;have bq:=Bd b;have jy:(l++[aU.cells 64 ((e9 b).map bp)])[bk]? = some (.cells sz (h.l.map bp++rest)) :=by rw[aj8 aD]; exact am
 have aA:∀ i (y:W),i<8->h.l[i]? = some y->(h.l.map bp++rest)[i]? = some (bp y) :=fun i y aB aL=>by
  rw[aj8 (by simpa [et.l] using aB),akd,aL]; rfl
 have cy:=aA 0 h.a (by omega) rfl;have q1:=aA 1 h.b (by omega) rfl;have cS:=aA 2 h.c (by omega) rfl;have fp:=aA 3 h.d (by omega) rfl;have mq:=aA 4 h.e (by omega) rfl;have IF:=aA 5 h.f (by omega) rfl;have IG:=aA 6 h.g (by omega) rfl;have IH:=aA 7 h.h (by omega) rfl;simp[mz,bq,jy,cy,q1,cS,fp,mq,IF,IG,IH];refine cm 64 (fun k ae l'=>ae 0=.ptr bk 0 sz/\ae 4=.ptr l.length 0 64/\ae 5=bp (lJ h b k).a/\ae 6=bp (lJ h b k).b/\ae 7=bp (lJ h b k).c/\ae 8=bp (lJ h b k).d/\ae 9=bp (lJ h b k).e/\ae 10=bp (lJ h b k).f/\ae 11=bp (lJ h b k).g/\ae 12=bp (lJ h b k).h/\ae 52=.int .i64 k ∧
  l'=l++[.cells 64 ((e9 b).map bp)]) ?_ ?_
 ·rintro k ae l' ax ⟨cp,a9,bg,cq,ez,fB,gR,iq,ju,kw,L1,rfl⟩;obtain⟨ae,rfl⟩:=ado cp a9 bg cq ez fB gR iq ju kw L1;clear cp a9 bg cq ez fB gR iq ju kw L1;simp;by_cases eG:(k:Int)<64
  ·have eT:IntKind.i64.wrap ((k:Int)+1)=k+1:=wrap_i64 (by omega) (by omega);have dR:k<64:=by omega
   have a3:=acV k dR;have gL:(e9 b)[k]? = some ((e9 b).getD k 0#32) :=by rw[ako,aka (by omega)]; rfl
   rw[PU h b k dR];generalize (e9 b).getD k 0#32=hL at *
   generalize b7.getD k 0#32=lH at *
   generalize lJ h b k=s at *
   have dJ:=ON s.e 6 11 25 (by omega) (by omega) (by omega);have dy:=ON s.a 2 13 22 (by omega) (by omega) (by omega);simp at dJ dy;simp[eG,a3,gL];refine aY dJ rfl ?_;simp[a3,gL];refine aY dy rfl ?_;simp[dR,eT];simp[round]
  ·have vH:k=64:=by omega
   subst vH;rw[PT];obtain⟨v,aq⟩:∃ v,rounds h b7 (e9 b)=v:=⟨_,rfl⟩
   rw[aq];have hR:grind h b=⟨h.a+v.a,h.b+v.b,h.c+v.c,h.d+v.d,h.e+v.e,h.f+v.f,h.g+v.g,h.h+v.h⟩:=by unfold grind; rw[aq]
   simp;have qy:h.l.length=v.l.length:=rfl;have mZ:h.l.length=8:=rfl;have rK:(grind h b).l=ij h.l v.l 8:=by rw[hR]; rfl
   rw[rK] at bj;refine cm 8 (fun k ae l'=>ae 0=.ptr bk 0 sz/\ae 111=.aH (v.l.map bp)/\ae 112=.int .i64 k/\l'=l.set bk (.cells sz ((ij h.l v.l k).map bp++rest))++[.cells 64 ((e9 b).map bp)]) ?_ ?_
   ·rintro k ae l' ax ⟨cp,LV,LW,rfl⟩;obtain⟨ae,rfl⟩:=jT cp LV LW;clear cp LV LW;simp;by_cases eG:(k:Int)<8
    ·have eT:IntKind.i64.wrap ((k:Int)+1)=k+1:=wrap_i64 (by omega) (by omega);have hH:k<8:=by omega
     obtain⟨y,aL⟩:∃ y,v.l[k]? = some y:=⟨_,aka (show k<v.l.length from hH)⟩
     obtain⟨z,aw⟩:∃ z,h.l[k]? = some z:=⟨_,aka (show k<h.l.length from hH)⟩
     have aC:=Kd qy (k:=k) (by rw[mZ]; exact hH);rw[aw] at aC;have hd:=E7 qy k;have ak:=nP bp (ij h.l v.l k) k (z+y) (by rw[hd,mZ]; exact hH);rw[Ke qy aw aL] at ak;have mc:((ij h.l v.l k).map bp).length=8:=by rw[aki,hd,mZ]
     have pG:bi ((ij h.l v.l k).map bp++rest) k [bp (z+y)]=(ij h.l v.l (k+1)).map bp++rest:=by
      rw[<-ak];unfold bi;rw[akP (by omega),alb (by simp; omega)];simp
     have qv:((ij h.l v.l k).map bp++rest)[k]? = some (bp z) :=by rw[aj8 (by omega),akd,aC]; rfl
     have WR:(l.set bk (.cells sz ((ij h.l v.l k).map bp++rest))++[aU.cells 64 ((e9 b).map bp)])[bk]? = some (.cells sz ((ij h.l v.l k).map bp++rest)) :=by
      rw[aj8 (by simpa using aD),alo]; simp[aD]
     have th:k+1<=sz:=by omega
     simp[eG,aL,qv,WR,eT,pG,hH,th,aD,List.set_append]
    ·have hH:k=8:=by omega
     subst hH;simp;exact bj _
   ·have kf:l.set bk (.cells sz ((ij h.l v.l 0).map bp++rest))=l:=by
     rw[Kf]; exact aci am
    rw[kf];simp[et.l]
 ·simp[PV]
abbrev lZ (cl:cT eN) :U:=ct 1 (fun s=>[cu s]) cl
theorem K3 (cl:cT eN) :(lZ cl).closed=true:=y3 (fun s=>by simp only[a1,lo,alP]) cl
def bytesOf (cl:List eN) :List B:=(cl.map cT.l).flatten
theorem Fs (cl:List eN) (k:Nat) (s:eN) (h:cl[k]? = some s) :bytesOf (cl.take (k+1))=bytesOf (cl.take k)++s.l:=by
 unfold bytesOf;rw[akC,h]; simp
theorem KU (cl:List eN) (k:Nat) :(bytesOf (cl.take k)).length<=(bytesOf cl).length:=by
 conv=>rhs; rw[<-ak1 k cl]
 unfold bytesOf;rw[aks,akZ,akf];omega
theorem U7 {n:Nat} (aD:n<=1000000000) {l:ap} {K:U->ap->Prop} (bj:∀ v j l',bJ 1 l' v j []->l.length<=l'.length->(∀ b,b<l.length->l'[b]? = l[b]?)->(cw v=decide (n=0))->K v l') :dg Tryz.prog GS 153 [.aK,.int .i64 n] l (c:=⟨K⟩) :=by
 apply bf Tryz.func153 [];have ad:¬((n:Int)<0) :=by omega
 have aV:IntKind.i64.wrap (n:Int)=n:=wrap_i64 (by omega) (by omega);have Hw:IntKind.i64.wrap (0:Int)=0:=rfl;by_cases aF:n=0
 ·subst aF;simp;exact bj _ 0 _ (.nil 0) (akb _) (fun _ _=>rfl) rfl
 have af:(0:Int)<n:=by omega
 have aw:qj l 1 1 [.int .u8 0] .aK (.int .i64 n)=some (.ar 1 l.length 0 n n (n*1),l++[.cells (n*1) (dz [.int .u8 0] n)]) :=by
  unfold qj i8;simp only[akr];have ay:cF=140737488355328:=rfl;rw[if_pos ⟨by omega,by omega,by rw[ay]; omega⟩,if_neg aF,if_neg (by omega),if_pos (by rw[ay]; omega)]
 have ak:e3 (.ar 1) (.ar 1 l.length 0 n n (n*1)) none (some (.int .i64 0)) none=some (.ar 1 l.length 0 0 n (n*1)) :=by
  rw[Bg,Fp,if_pos ⟨by omega,by omega⟩];simp[aF]
 rw[alM] at aw ak;have al:0<n:=by omega
 simp[ad,af,al,aV,aw,Hw,ak];refine bj _ l.length (l++[.cells n (dz [.int .u8 0] n)]) (.ar _ 0 n n (dz [.int .u8 0] n) [] (by simp) (by rw[Ba]; simp) rfl (by simp) (by omega) (by omega) rfl) (by simp) (fun b ag=>aj8 ag) ?_;simp[cw,aF]
def wM (cl:List eN) :eN:=if bytesOf cl=[] then none else some (bytesOf cl)
theorem Tl (cl:List eN) :(wM cl).l=bytesOf cl:=by unfold wM; split<;>simp_all
set_option maxHeartbeats 4000000 in
theorem TI (cl:List eN) (am:(bytesOf cl).length<=1000000000) (z2:cl.length<=1000000000) :pb Tryz.prog GS 110 [lZ (some cl)] (cu (wM cl)) :=by
 refine A3 Tryz.checked.mixed bx ?_;apply bf Tryz.func110 [];simp;have bU:∀ (k:Nat) (s:eN),cl[k]? = some s->cN (.ar 1) (lZ (some cl)) (.int .i64 k)=some (.cg [cu s] 0) :=fun k s ak=>by simp[lZ,r1,ak]
 refine cm cl.length (fun k ae l=>ae 0=lZ (some cl)/\ae 9=lZ (some cl)/\ae 10=.int .i64 cl.length/\ae 11=.int .i64 k/\ae 3=.int .i64 (bytesOf (cl.take k)).length/\l=[]) ?_ ?_
 ·rintro k ae l ax ⟨cp,gR,iq,ju,aZ,rfl⟩;obtain⟨ae,rfl⟩:=kq cp aZ gR iq ju;clear cp aZ gR iq ju;simp;by_cases h:k<cl.length
  ·obtain⟨s,ak,_⟩:=bF h;have ag:=Fs cl k s ak;have er:=KU cl (k+1);rw[ag,akf] at er;have aV:IntKind.i64.wrap (((bytesOf (cl.take k)).length:Int)+s.l.length)=((bytesOf (cl.take k)).length:Int)+s.l.length:=wrap_i64 (by omega) (by omega);have eT:IntKind.i64.wrap ((k:Int)+1)=k+1:=wrap_i64 (by omega) (by omega);have iZ:¬(((bytesOf (cl.take k)).length:Int)+s.l.length<0) :=by omega
   simp[h,bU k s ak,aV,iZ,eT,ag]
  ·have br:k=cl.length:=by omega
   subst br;simp;refine U7 am ?_;intro v j l au bC _ hS;simp;refine cm cl.length (fun k ae l=>ae 25=lZ (some cl)/\ae 26=.int .i64 cl.length/\ae 27=.int .i64 k/\∃ v j,ae 6=v/\bJ 1 l v j ((bytesOf (cl.take k)).map b0)/\cw v=decide (bytesOf cl=[])) ?_ ?_
   ·rintro k ae l ax ⟨rv,w7,w8,v,j,cq,au,hS⟩;obtain⟨ae,rfl⟩:=h1 cq rv w7 w8;clear cq rv w7 w8;simp;by_cases h:k<cl.length
    ·obtain⟨s,ak,_⟩:=bF h;have ag:=Fs cl k s ak;have er:=KU cl (k+1);rw[ag,akf] at er;have eT:IntKind.i64.wrap ((k:Int)+1)=k+1:=wrap_i64 (by omega) (by omega);have ay:cF=140737488355328:=rfl;obtain⟨a4,cb,l',ad,af,al,aG,a6,bK⟩:=nf (by_:=1) au (x:=cu s) (xs:=s.l.map b0) (by simp[cu]) (fun e ao=>by obtain⟨x,_,rfl⟩:=akz.1 ao; rfl) (by omega) (by omega) (by simp; omega);simp[h,bU k s ak,ad];refine cM.cc ?_;simp[h,eT];refine⟨⟨cb,by rw[ag,aks]; exact af⟩,?_⟩;rw[tF bK,hS];by_cases ao:bytesOf cl=[]
     ·have aF:(bytesOf cl).length=0:=by rw[ao]; rfl
      have:s.l=[] :=akH.1 (by omega);simp[ao,this]
     ·simp[ao]
    ·have br:k=cl.length:=by omega
     subst br;simp;rw[akE] at au;refine au.A8 (fun _=>rfl) _ ?_ (Tl cl);rw[hS];unfold wM;split<;>simp_all
   ·simp;refine⟨⟨j,by simpa [bytesOf] using au⟩,?_⟩;rw[hS];simp[akH]
 ·simp[bytesOf]
theorem Ty (s:cT B) :fT Tryz.prog .eql 143 (ct 1 b0 s) .aK=some (.bool s.isNone) :=Fk (e:=5) (by kernel_rfl) 1 b0 s
theorem Tz {s:cT B} (ak:s.l.length<=1000000000) {l:ap} {K:U->ap->Prop} (bj:∀ v j l',bJ 1 l' v j (s.l.map b0)->l.length<=l'.length->(∀ b,b<l.length->l'[b]? = l[b]?)->(v=.aK\/l.length<=j)->cw v=s.isNone->K v l') :dg Tryz.prog GS 193 [ct 1 b0 s] l (c:=⟨K⟩) :=by
 apply bf Tryz.func193 [];simp[Ty];cases s with
 | none=>
  simp;exact bj _ 0 _ (.nil 0) (akb _) (fun _ _=>rfl) (.inl rfl) rfl
 | some b=>
  simp;have ay:cF=140737488355328:=rfl;have rW:b.length<=1000000000:=ak;have au:bJ 1 (l++[aU.cells 0 []]) (.ar 1 l.length 0 0 0 0) l.length [] :=.ar l.length 0 0 0 [] [] (by simp) rfl rfl (by simp) (akb _) (by omega) rfl;obtain⟨a4,cb,l',ad,af,al,aG,a6,bK⟩:=nf (by_:=1) au (x:=ct 1 b0 (some b)) (xs:=b.map b0) (by simp) (fun e ao=>by obtain⟨x,_,rfl⟩:=akz.1 ao; rfl) (by omega) (by omega) (by simp; omega);simp[ad];refine cM.cc ?_;simp;have lu:l.length+1<=l'.length:=by simpa using al
  refine bj _ cb _ af (by omega) (fun b ag=>?_) (.inr (by rcases a6 with h | h<;>(try simp only[akf,akv,akR] at h)<;>omega)) ?_
  ·rw[aG b (by simp; omega) (by omega),aj8 ag]
  ·rw[tF bK]; rfl
structure ri where
 st:et
 rest:eN
 n:Int
def gy (s:et) (r:U) (n:Int) :List U:=s.l.map bp++[r,.int .i64 n]
def pi (m:ri) :U:=.aH (gy m.st (cu m.rest) m.n)
def rq (m:ri) (b:eN) :ri:=
 let all:=m.rest.l++b.l
 ⟨(ha m.st all).1,if all=[] then none else some (ha m.st all).2,m.n+b.l.length⟩
theorem Tm (a b:eN) :wM [a,b]=if a.l++b.l=[] then none else some (a.l++b.l) :=by
 have:bytesOf [a,b]=a.l++b.l:=by simp[bytesOf]
 unfold wM;rw[this]
theorem U4 (h:et) (b:List B) :grind h (b.take 64)=grind h b:=by unfold grind; rw[acb b 64 (by omega)]
theorem tQ (s:et) (r:U) (n:Int) :(gy s r n).length=10:=rfl
set_option maxHeartbeats 8000000 in
theorem Ly (m:ri) (b:eN) (am:m.rest.l.length+b.l.length<=1000000000) (aD:0<=m.n) (rQ:m.n<=1000000000) :pb Tryz.prog GS 161 [pi m,cu b] (pi (rq m b)) :=by
 refine A3 Tryz.checked.mixed bx ?_;apply bf Tryz.func161 [[[0],[1],[2],[3],[4],[5],[6,1]]];have ah:(U.aH (gy m.st (cu m.rest) m.n)).cells=some (gy m.st (cu m.rest) m.n) :=rfl;have gg:(gy m.st (cu m.rest) m.n)[8]? = some (cu m.rest) :=rfl;have MG:=TI [m.rest,b] (by simp[bytesOf]; exact am) (by simp);rw[Tm] at MG;simp[pi,tQ,gg];refine PI MG (.cons ?_ .nil) ?_
 ·exact Ef (es:=[[cu m.rest],[cu b]]) (rest:=[]) rfl rfl (by simp) (by simp[a1,lo])
 obtain⟨all,eA⟩:∃ all,all=m.rest.l++b.l:=⟨_,rfl⟩
 have hd:all.length<=1000000000:=by rw[eA]; simpa using am
 rw[<-eA];simp;refine cm (all.length / 64) (fun k ae l=>ae 1=cu b/\ae 2=.ptr 0 0 10/\ae 4=.ptr 1 0 10/\∃ h s gY junk,ae 5=cu s/\l=.cells 10 (gy h (cu m.rest) m.n) ::.cells 10 gY::junk/\ha m.st all=ha h s.l/\s.l.length=all.length - 64*k/\gY.length=10/\s.isNone=decide (all=[])) ?_ ?_
 ·rintro k ae l ax ⟨aN,aT,a9,h,s,gY,junk,bg,rfl,fu,eQ,oN,Nx⟩;obtain⟨ae,rfl⟩:=h1 aN aT a9 bg;clear aN aT a9 bg;have bC:ch (.ar 1) (cu s)=some (.int .i64 s.l.length) :=qS _;simp[bC];by_cases F1:(64:Int)<=s.l.length
  ·cases s with
   | none=>simp at F1
   | some hD=>
   have Va:(64:Int)<=hD.length:=F1;have Md:64<=hD.length:=by omega
   simp[Va];refine U3 (h:=h) (b:=hD) Md (l:=.cells 10 (gy h (cu m.rest) m.n) ::.cells 10 gY::junk) (bk:=0) (sz:=10) (rest:=[cu m.rest,.int .i64 m.n]) rfl (by omega) (P5 (lo _)) (fun agW=>?_);have bq:e3 (.ar 1) (cu (some hD)) (some (.int .i64 64)) none none=some (cu (some (hD.drop 64))) :=by
    unfold cu; rw[QH (by omega) (by omega)]; rfl
   simp[bq];have af9:hD.length=all.length - 64*k:=eQ;refine⟨by omega,grind h hD,some (hD.drop 64),rfl,gY,⟨rfl,rfl⟩,?_,?_,oN,?_⟩
   ·rw[fu];show ha h hD=_;rw[yS h hD Md,U4]; rfl
   ·simp; omega
   ·exact Nx
  ·have aO:s.l.length<64:=by omega
   have aV:IntKind.i64.wrap (m.n+(b.l.length:Int))=m.n+b.l.length:=wrap_i64 (by omega) (by omega);have fV:(gy h (cu m.rest) m.n)[9]? = some (.int .i64 m.n) :=rfl;have kD:ch (.ar 1) (cu b)=some (.int .i64 b.l.length) :=qS _;simp[F1,fV,kD,aV];refine Tz (by omega) ?_;intro v j l au hg jy aj hS;obtain⟨l',rfl⟩:∃ l',l=.cells 10 (gy h (cu m.rest) m.n) ::.cells 10 gY::l':=by
    have hr:=jy 0 (by simp);have aS:=jy 1 (by simp);cases l with
    | nil=>simp at hr
    | cons a l=>cases l with
     | nil=>simp at aS
     | cons c l=>simp at hr aS; subst hr aS; exact⟨l,rfl⟩
   have XV:∀ r n hX,bi (gy h r n) 9 [.int .i64 hX]=gy h r hX:=fun _ _ _=>rfl
   have XU:∀ r n dT,bi (gy h r n) 8 [dT]=gy h dT n:=fun _ _ _=>rfl
   have aq:=au.cells;simp[fV,XV,XU,aq,tQ,oN,mz];have kg:∀ r n,List.take 10 (gy h r n)=gy h r n:=fun _ _=>rfl
   rw[kg,kg];have Wk:rq m b=⟨h,if all=[] then none else some s.l,m.n+b.l.length⟩:=by
    unfold rq;rw[<-eA]
    dsimp only
    rw[fu,BS h s.l aO]
   rw[Wk];have kF:=(au.jt (l':=.cells 10 (gy h v (m.n+(b.l.length:Int))) ::.cells 10 (gy h v (m.n+(b.l.length:Int))) ::l') (by
    rcases aj with aj | aj
    ·exact .inl aj
    ·obtain⟨q,rfl⟩:∃ q,j=q+2:=⟨j - 2,by simp at aj; omega⟩
     exact .inr rfl)).A8 (fun _=>rfl) (if all=[] then none else some s.l) (by
     rw[hS,Nx]; split<;>simp_all) (by
     split
     ·rename_i ao; rw[ao] at eQ; simp at eQ; rw[eQ]; rfl
     ·rfl)
   refine .aH _ _ rfl fun i c c' qu rD=>?_
   rcases i with _ | _ | _ | _ | _ | _ | _ | _ | _ | _ | i<;>simp[gy,et.l] at qu rD
   all_goals subst qu rD
   all_goals first | exact kF | exact .flat _ rfl
 ·simp;exact⟨m.st,(if all=[] then none else some all),rfl,⟨[.int .u32 0,.int .u32 0,.int .u32 0,.int .u32 0,.int .u32 0,.int .u32 0,.int .u32 0,.int .u32 0,.aK,.int .i64 0],⟨rfl,rfl⟩,by split<;>simp_all,by split<;>simp_all,rfl,by split<;>simp_all⟩⟩
def fY (b:List B) :U:=.aH (b.map bz)
def mC (n k:Nat) :List B:=128#8::List.replicate ((119 - n % 64) % 64) 0#8++(yU (BitVec.ofNat 64 n*8#64)).take k
theorem Ju (n:Nat) :mC n 8=tail n:=rfl
theorem Q7 (n k:Nat) (x:B) (ai:(yU (BitVec.ofNat 64 n*8#64))[k]? = some x) :mC n (k+1)=mC n k++[x] :=by
 unfold mC;rw[akC,ai]; simp
theorem Ez (n k:Nat) :(mC n k).length<=80:=by
 unfold mC;have:(yU (BitVec.ofNat 64 n*8#64)).length=8:=rfl;simp; omega
theorem KQ (q:BitVec 64) (k:Nat) (ax:k<8) :(yU q)[k]? = some ((q >>> (56 - 8*k)).setWidth 8) :=by
 match k,ax with
 | 0,_=>rfl
 | 1,_=>rfl
 | 2,_=>rfl
 | 3,_=>rfl
 | 4,_=>rfl
 | 5,_=>rfl
 | 6,_=>rfl
 | 7,_=>rfl
def oT (s:List W) (k:Nat) :List B:=((s.take k).map sw).flatten++List.replicate (32 - 4*k) 0#8
theorem RC (s:List W) :(s.map sw).flatten.length=4*s.length:=by
 induction s with
 | nil=>rfl
 | cons w s aQ=>simp[aQ,sw]; omega
theorem Z8 (s:List W) (k:Nat) (ax:k<=s.length) (ak:s.length=8) :(oT s k).length=32:=by
 unfold oT;rw[akf,RC];simp; omega
theorem Z9 (s:List W) (k:Nat) (w:W) (ax:s[k]? = some w) (ak:s.length=8) :
  ((((oT s k).set (4*k) ((w >>> 24).setWidth 8)).set (4*k+1) ((w >>> 16).setWidth 8)).set (4*k+2) ((w >>> 8).setWidth 8)).set (4*k+3) (w.setWidth 8)=oT s (k+1) :=by
 have hH:=(aj7.1 ax).1;unfold oT;rw[akC,ax];have dQ:((s.take k).map sw).flatten.length=4*k:=by rw[RC]; simp; omega
 obtain⟨A,Me⟩:∃ A,A=((s.take k).map sw).flatten:=⟨_,rfl⟩
 rw[<-Me] at dQ ⊢;have ay:32 - 4*k=(32 - 4*(k+1))+1+1+1+1:=by omega
 rw[ay,akW,akW,akW,akW];rw[alc _ _ (by omega),alc _ _ (by omega),alc _ _ (by omega),alc _ _ (by omega)];simp only[dQ,amj,Nat.add_sub_cancel_left,al9,amW,aks,akZ,<-Me];simp[sw]
def B9 (s:et) (r:eN) (n:Nat) :List B:=written (ha s (r.l++tail n)).1
set_option maxHeartbeats 8000000 in
theorem Ue (s:et) (r:eN) (n:Nat) (ay:r.l.length<=100000000) (aD:n<=100000000) :bn Tryz.prog GS 162 [pi ⟨s,r,n⟩] (fY (B9 s r n)) :=by
 refine bD Tryz.checked.mixed bx ?_;apply bf Tryz.func162 [];have fV:(gy s (cu r) n)[9]? = some (.int .i64 n) :=rfl;have ah:(U.aH (gy s (cu r) n)).cells=some (gy s (cu r) n) :=rfl;have pE:=wF n 64 (by omega);obtain⟨q,a8⟩:∃ q,q=n % 64:=⟨_,rfl⟩
 rw[show ((64:Int).toNat)=64 from rfl,<-a8] at pE;have agA:q<64:=by rw[a8]; exact amc _ (by omega)
 have qF:IntKind.i64.wrap (119 - (q:Int))=(119 - q:Nat) :=by rw[wrap_i64 (by omega) (by omega)]; omega
 have Di:=wF (119 - q) 64 (by omega);rw[show ((64:Int).toNat)=64 from rfl] at Di;obtain⟨m,hm⟩:∃ m,m=(119 - q) % 64:=⟨_,rfl⟩
 rw[<-hm] at Di;have ags:m<64:=by rw[hm]; exact amc _ (by omega)
 obtain⟨t,a3⟩:∃ t,t=119 - q:=⟨_,rfl⟩
 rw[<-a3] at qF Di;have kE:cF=140737488355328:=rfl;obtain⟨L,dO⟩:∃ L:ap,L=[aU.cells 10 (gy s (cu r) n),aU.cells 32 (rep 32 (U.int IntKind.u8 0)),aU.cells 1 [U.int IntKind.u8 128]] :=⟨_,rfl⟩
 have Vn:L[0]? = some (aU.cells 10 (gy s (cu r) n)) :=by rw[dO]; rfl
 have Vo:L[1]? = some (aU.cells 32 (rep 32 (U.int IntKind.u8 0))) :=by rw[dO]; rfl
 have pp:L.length=3:=by rw[dO]; rfl
 have Xg:bJ 1 L (.ar 1 2 0 1 1 1) 2 [[U.int IntKind.u8 128]] :=by
  rw[dO];exact .ar 2 1 1 1 [.int .u8 128] _ rfl rfl rfl (by simp) (akb _) (akb _) rfl
 have W0:m<9223372036854775808:=by omega
 have ed:(List.length [[U.int IntKind.u8 128]]+m)*1<=cF:=by rw[kE]; simp; omega
 have WT:=Sx (n:=m) (k:=.i64) (by_:=1) (zero:=[.int .u8 0]) Xg rfl (by omega) (by omega) W0 ed;obtain⟨v,j,l,ad,au,al,aG,a6,bK⟩:=WT;have aq:cw v=false:=by
  rw[alY]; intro aR;rw[jH,bK] at aR;cases aR.1
 have aM:u 128#8=128:=by decide
 have ao:([[U.int IntKind.u8 128]]++List.replicate m [U.int IntKind.u8 0] :List (List U))=(mC n 0).map b0:=by
  have:m=(119 - n % 64) % 64:=by rw[hm,a8]
  unfold mC;rw[<-this];simp[b0,aM]
 rw[ao] at au;have hr:=(aG 0 (by omega) (by omega)).trans Vn;have aS:=(aG 1 (by omega) (by omega)).trans Vo;have vG:2<=j:=by rcases a6 with h | h<;>omega
 simp[pi,tQ,fV,pE,qF,Di];rw[<-dO];simp[ad];refine cm 8 (fun k ae l=>ae 1=.ptr 0 0 10/\ae 2=.ptr 1 0 32/\ae 3=dI (BitVec.ofNat 64 n*8#64)/\ae 5=.int .i64 (56 - 8*(k:Int))/\∃ v j,ae 4=v/\2<=j/\cw v=false/\bJ 1 l v j ((mC n k).map b0)/\l[0]? = some (aU.cells 10 (gy s (cu r) n))/\l[1]? = some (aU.cells 32 (rep 32 (U.int IntKind.u8 0)))) ?_ ?_
 ·rintro k ae l ax ⟨aN,aT,aZ,bg,v,j,a9,aj,aq,au,hr,aS⟩;obtain⟨ae,rfl⟩:=kq aN aT aZ a9 bg;clear aN aT aZ a9 bg;obtain⟨c,ah⟩:∃ c:Int,c=56 - 8*(k:Int) :=⟨_,rfl⟩
  rw[<-ah];simp;by_cases hH:0<=c
  ·have xA:k<8:=by omega
   have ai:=KQ (BitVec.ofNat 64 n*8#64) k xA;have VV:c.toNat=56 - 8*k:=by omega
   have pK:IntKind.i64.wrap (c - 8)=56 - 8*((k:Int)+1) :=by rw[wrap_i64 (by omega) (by omega)]; omega
   have kI:=Ez n k;have m0:bJ 1 (l++[aU.cells 1 [bz (((BitVec.ofNat 64 n*8#64) >>> (56 - 8*k)).setWidth 8)]]) v j ((mC n k).map b0) :=au.more _;obtain⟨a4,cb,l',ad,af,al,aG,a6,bK⟩:=nf (by_:=1) m0 (x:=.ar 1 l.length 0 1 1 1) (xs:=[[bz (((BitVec.ofNat 64 n*8#64) >>> (56 - 8*k)).setWidth 8)]]) (by simp[dd]) (by simp) (by omega) (by omega) (by simp; omega);have ev:j<l.length:=by
    rcases au.lt with h | h
    ·subst h; simp[cw] at aq
    ·exact h
   have T9:l'[0]? = some (aU.cells 10 (gy s (cu r) n)) :=by rw[aG 0 (by simp) (by omega),aj8 (b9 hr)]; exact hr
   have Ua:l'[1]? = some (aU.cells 32 (rep 32 (U.int IntKind.u8 0))) :=by
    have:=b9 aS;rw[aG 1 (by simp; omega) (by omega),aj8 (b9 aS)]; exact aS
   have e1:cw a4=false:=by rw[tF bK,aq]; rfl
   have eX:2<=cb:=by
    rcases a6 with h | h
    ·omega
    ·have h:=akV (show l.length<=(l++[aU.cells 1 [bz (((BitVec.ofNat 64 n*8#64) >>> (56 - 8*k)).setWidth 8)]]).length by simp) h;omega
   simp[hH,VV,ad];refine cM.cc ?_;simp[hH,pK];exact⟨by omega,cb,eX,e1,by rw[Q7 n k _ ai,aks]; exact af,T9,Ua⟩
  ·have rM:k=8:=by omega
   subst rM;rw[Ju] at au;have xu:=Ly ⟨s,r,n⟩ (some (tail n)) (by have:=Ez n 8; rw[Ju] at this; simp; omega) (by simp) (by simp; omega);have ai:=au.ug (fun _=>rfl) (some (tail n)) (by rw[aq]; rfl) rfl;have MV:(rq ⟨s,r,n⟩ (some (tail n))).st=(ha s (r.l++tail n)).1:=rfl;obtain⟨F,vv⟩:∃ F,F=rq ⟨s,r,n⟩ (some (tail n)) :=⟨_,rfl⟩
   rw[<-vv] at xu MV;have xD:a1 [pi ⟨s,r,n⟩]=true:=by simp[a1,pi,U.closed,gy,et.l,lo]
   have Wg:zk 8 0 (pi F)=some (.aH (F.st.l.map bp)) :=rfl;have mZ:F.st.l.length=8:=rfl;simp[hH,hr,tQ];refine PI xu (.cons (P5 ?_) (.cons ai .nil)) ?_
   ·show (U.aH (gy s (cu r) n)).closed=true;simp[U.closed,a1,gy,et.l,lo]
   simp[Wg];refine cm 8 (fun k ae l=>ae 2=.ptr 1 0 32/\ae 33=.aH (F.st.l.map bp)/\ae 34=.int .i64 k/\l[1]? = some (aU.cells 32 ((oT F.st.l k).map bz))) ?_ ?_
   ·rintro k ae l ax ⟨aT,pk,pl,aS⟩;obtain⟨ae,rfl⟩:=jT aT pk pl;clear aT pk pl;obtain⟨yC,bt,rfl⟩:=ac7 aS;clear aS;simp;by_cases hH:(k:Int)<8
    ·have eG:k<8:=by omega
     obtain⟨w,aV⟩:∃ w,F.st.l[k]? = some w:=⟨_,aka (show k<F.st.l.length from eG)⟩
     have dF:=Z8 F.st.l k (by omega) mZ;have oJ:=Z9 F.st.l k w aV mZ;have h2:IntKind.i64.wrap (4*(k:Int))=(4*k:Nat) :=by rw[wrap_i64 (by omega) (by omega)]; omega
     have bV:IntKind.i64.wrap (((4*k:Nat) :Int)+1)=(4*k+1:Nat) :=by rw[wrap_i64 (by omega) (by omega)]; omega
     have w2:IntKind.i64.wrap (((4*k:Nat) :Int)+2)=(4*k+2:Nat) :=by rw[wrap_i64 (by omega) (by omega)]; omega
     have eM:IntKind.i64.wrap (((4*k:Nat) :Int)+3)=(4*k+3:Nat) :=by rw[wrap_i64 (by omega) (by omega)]; omega
     have hL:IntKind.i64.wrap ((k:Int)+1)=k+1:=wrap_i64 (by omega) (by omega);obtain⟨a,aC⟩:∃ a,a=4*k:=⟨_,rfl⟩
     rw[<-aC] at h2 bV w2 eM oJ;have s0:=nP bz (oT F.st.l k) a ((w >>> 24).setWidth 8) (by omega);have fP:=nP bz ((oT F.st.l k).set a ((w >>> 24).setWidth 8)) (a+1) ((w >>> 16).setWidth 8) (by simp; omega);have i4:=nP bz (((oT F.st.l k).set a ((w >>> 24).setWidth 8)).set (a+1) ((w >>> 16).setWidth 8)) (a+2) ((w >>> 8).setWidth 8) (by simp; omega);have uk:=nP bz ((((oT F.st.l k).set a ((w >>> 24).setWidth 8)).set (a+1) ((w >>> 16).setWidth 8)).set (a+2) ((w >>> 8).setWidth 8)) (a+3) (w.setWidth 8) (by simp; omega);rw[oJ] at uk;have gZ:(a:Int)<32:=by omega
     have dn:((a+1:Nat) :Int)<32:=by omega
     have dc:((a+2:Nat) :Int)<32:=by omega
     have iJ:((a+3:Nat) :Int)<32:=by omega
     have yV:a+1<=32:=by omega
     have b5:a+1+1<=32:=by omega
     have ce:a+2+1<=32:=by omega
     have il:a+3+1<=32:=by omega
     have d1:(a:Int)+1<32:=by omega
     have d2:(a:Int)+2<32:=by omega
     have d3:(a:Int)+3<32:=by omega
     have f1:((a:Int)+1).toNat=a+1:=by omega
     have f2:((a:Int)+2).toNat=a+2:=by omega
     have f3:((a:Int)+3).toNat=a+3:=by omega
     have ix:(0:Int)<=(a:Int)+1:=by omega
     have hl:(0:Int)<=(a:Int)+2:=by omega
     have pW:(0:Int)<=(a:Int)+3:=by omega
     simp[hH,eG,aV,h2,bV,w2,eM,hL,gZ,s0,fP,i4,uk,yV,b5,ce,il,d1,d2,d3,f1,f2,f3,ix,hl,pW,-List.map_set]
    ·have rM:k=8:=by omega
     subst rM;have Xi:oT F.st.l 8=written F.st:=by simp[oT,written,et.l]
     rw[Xi];have pL:(written F.st).length=32:=rfl;simp[pL,mz,aj9];exact aJ (by unfold fY B9; rw[MV]) (K4 bz (fun _=>rfl) _)
   ·simp[aS];rw[Qi .u8 8]; rfl
 ·simp;exact⟨j,vG,aq,au,hr,aS⟩
end hN

end Go.ca
