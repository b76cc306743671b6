/- Part 19 of the proof of ScriptKnown: an abstract semantics that is proved sound for the model, contracts of functions in it, and plain facts (RT). No condition. -/
import Derived.Test.YtgephffbfiemeaaGreatDoorKScriptKnown18
import Derived.Lib.Bytealg
set_option linter.all false
namespace Go.Proofs.YtgephffbfiemeaaGreatDoor
open Go.Abs
set_option linter.all false
set_option maxRecDepth 100000
def bg (l:List UInt8):List UInt8:=l.takeWhile (· != 10)
def bW (l:List UInt8):List UInt8:=l.dropWhile (· != 10)
def lines:List UInt8→List (List UInt8)
  | []=> [[]]
  | c :: t => if c = 10 then [] :: lines t else match lines t with
    | []=> [[c]]
    | x::r=>(c::x)::r
def cut (l:List UInt8):List UInt8 × Option (List UInt8):=match bW l with
 | []=>(l,none)
 | _::r=>(bg l++ [10],some r)
theorem gC (l:List UInt8):bg l++bW l=l:=List.takeWhile_append_dropWhile
theorem uq {l r:List UInt8} {c:UInt8} (h:bW l=c::r):c=10:=by
  have:∀ l:List UInt8,∀ c r,bW l=c::r→c=10:=by
    intro l
    induction l with
    | nil=>intro c r h;simp [bW] at h
    | cons x l ih =>
      intro c r h
      simp only [bW,List.dropWhile_cons] at h
      split at h
      · exact ih c r h
      · rename_i hx
        simp at h hx
        rw [←h.1];exact hx
  exact this l c r h
theorem rH (l:List UInt8):lines l=match bW l with
    | []=> [l]
    | _::r=>bg l::lines r:=by
  induction l with
  | nil=>rfl
  | cons c l ih =>
    simp only [lines,bW,bg,List.dropWhile_cons,List.takeWhile_cons]
    by_cases hc:c=10
    · subst hc;simp
    · have h1:(c != 10)=true:=by simpa using hc
      rw [if_neg hc,ih]
      simp only [h1,if_true]
      simp only [bW,bg]
      cases hd:l.dropWhile (· != 10)<;>rfl
theorem BP (l:List UInt8):lines l≠ []:=by
 rw [rH];split<;>simp
theorem ur (l:List UInt8):Lib.indexByte l 10=match bW l with
    | []=> -1
    | _::_=>((bg l).length:Int):=by
  induction l with
  | nil=>rfl
  | cons c l ih =>
    simp only [Lib.indexByte,bW,bg,List.dropWhile_cons,List.takeWhile_cons]
    by_cases hc:c=10
    · subst hc;simp
    · have h1:(c != 10)=true:=by simpa using hc
      have h2:(c == 10)=false:=Pg
      rw [h1,h2]
      simp only [bW,bg] at ih
      rw [ih]
      cases hd:l.dropWhile (· != 10) with
      | nil=>simp
      | cons x r=>first|(simp;done)|(simp;omega)
structure Rw where
 a:Nat
 ws:List Wd
 deriving DecidableEq
def dP (b:Nat) (w:Wd):Wd:=⟨w.q,w.t,w.a+b⟩
def cr (x:List UInt8) (a:Nat):Except (Nat × Nat) (List Rw) :=
 if 1000<x.length then .error (4,a) else match cI x with
  | .error b=> .error (3,a+b)
  | .ok []=> .ok []
  | .ok (w::ws)=> .ok [⟨a,(w::ws).map (dP a)⟩]
def e9:Except (Nat × Nat) (List Rw)→Except (Nat × Nat) (List Rw)→Except (Nat × Nat) (List Rw)
 | .error e,_=> .error e
 | .ok _, .error e=> .error e
 | .ok a, .ok b=> .ok (a++b)
def dn:List (List UInt8)→Nat→Except (Nat × Nat) (List Rw)
 | [],_=> .ok []
 | x::r,a=>e9 (cr x a) (dn r (a+x.length+1))
def e6 (l:List UInt8):Except (Nat × Nat) (List Rw):=if 20000<l.length then .error (4,20000) else dn (lines l) 0
theorem yk (e:Except (Nat × Nat) (List Rw)):e9 (.ok []) e=e:=by cases e<;>rfl
theorem rI (a b c:Except (Nat × Nat) (List Rw)):e9 (e9 a b) c=e9 a (e9 b c):=by
 cases a<;>cases b<;>cases c<;>simp [e9]
theorem pK (e:Except (Nat × Nat) (List Rw)):e9 e (.ok [])=e:=by cases e<;>simp [e9]
theorem mF:∀ (n:Nat) (l:List UInt8) (a:Nat),l.length≤n→(∀ b,dE l a= .error b→b≤a+l.length)∧(∀ ws,dE l a= .ok ws→ws.length≤l.length∧∀ w∈ws,w.a≤a+l.length):=by
  intro n
  induction n with
  | zero =>
    intro l a h
    have:l= []:=List.eq_nil_of_length_eq_zero Oz
    subst this
    have e:dE [] a= .ok []:=rfl
    rw [e]
    exact ⟨(fun b h=>by cases h),(fun ws h=>by cases h;simp)⟩
  | succ n ih =>
    intro l a h
    rw [eE]
    have hd:=cC aU l
    cases hl:l.dropWhile aU with
    | nil=>exact ⟨(fun b h=>by cases h),(fun ws h=>by cases h;simp)⟩
    | cons c r =>
      rw [hl] at hd
      simp only
      by_cases h35:c=35
      · rw [if_pos h35]
        exact ⟨(fun b h=>by cases h),(fun ws h=>by cases h;simp)⟩
      · rw [if_neg h35]
        cases hw:cV (c::r) with
        | none=>exact ⟨(fun b h=>by cases h;omega),(fun ws h=>by cases h)⟩
        | some q =>
          obtain ⟨q,t,r'⟩:=q
          have hlen:=eD hw
          obtain ⟨i1,i2⟩:=ih r' (a+(l.length - r'.length)) Oz
          simp only
          cases hr:dE r' (a+(l.length - r'.length)) with
          | error b =>
            have:=i1 b hr
            exact ⟨(fun b2 h=>by cases h;omega),(fun ws h=>by cases h)⟩
          | ok ws =>
            obtain ⟨i3,i4⟩:=i2 ws hr
            refine ⟨(fun b2 h=>by cases h),fun ws2 h=>?_⟩
            cases h
            refine ⟨by simp;omega,fun w hw=>?_⟩
            rcases List.mem_cons.1 hw with rfl|hw
            · simp only;omega
            · have:=i4 w hw;omega
theorem yl {l:List UInt8} {b:Nat} (h:cI l= .error b):b≤l.length:=by
 have:=(mF l.length l 0 (Nat.le_refl _)).1 b h;omega
theorem ym {l:List UInt8} {ws:List Wd} (h:cI l= .ok ws):ws.length≤l.length∧∀ w∈ws,w.a≤l.length:=by
 have:=(mF l.length l 0 (Nat.le_refl _)).2 ws h
 refine ⟨this.1,fun w hw=>?_⟩
 have:=this.2 w hw;omega
end Go.Proofs.YtgephffbfiemeaaGreatDoor
