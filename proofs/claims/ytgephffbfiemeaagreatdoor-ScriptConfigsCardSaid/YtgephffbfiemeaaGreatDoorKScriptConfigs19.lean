/- Part 19 of the proof of ScriptConfigs: an abstract semantics that is proved sound for the model, contracts of functions in it, and plain facts (RT). No condition. -/
import Derived.Test.YtgephffbfiemeaaGreatDoorKScriptConfigs18
import Derived.Lib.Bytealg
set_option linter.all false
namespace Go.Proofs.YtgephffbfiemeaaGreatDoor
open Go.Abs
set_option linter.all false
set_option maxRecDepth 100000
def aQ (l:List UInt8):List UInt8:=l.takeWhile (· != 10)
def bW (l:List UInt8):List UInt8:=l.dropWhile (· != 10)
def lines:List UInt8→List (List UInt8)
  | []=> [[]]
  | c :: t => if c = 10 then [] :: lines t else match lines t with
    | []=> [[c]]
    | x::r=>(c::x)::r
def cut (l:List UInt8):List UInt8 × Option (List UInt8):=match bW l with
 | []=>(l,none)
 | _::r=>(aQ l++ [10],some r)
theorem fi (l:List UInt8):aQ l++bW l=l:=List.takeWhile_append_dropWhile
theorem vE {l r:List UInt8} {c:UInt8} (h:bW l=c::r):c=10:=by
  have:∀ l:List UInt8,∀ c r,bW l=c::r→c=10:=by
    intro l
    induction l with
    | nil=>intro c r h;simp [bW] at h
    | cons x l ih =>
      intro c r h
      simp only [bW,List.dropWhile_cons] at h
      split at h
      · exact ih c r h
      · rename_i hx
        simp at h hx
        rw [←h.1];exact hx
  exact this l c r h
theorem nV (l:List UInt8):lines l=match bW l with
    | []=> [l]
    | _::r=>aQ l::lines r:=by
  induction l with
  | nil=>rfl
  | cons c l ih =>
    simp only [lines,bW,aQ,List.dropWhile_cons,List.takeWhile_cons]
    by_cases hc:c=10
    · subst hc;simp
    · have h1:(c != 10)=true:=by simpa using hc
      rw [if_neg hc,ih]
      simp only [h1,if_true]
      simp only [bW,aQ]
      cases hd:l.dropWhile (· != 10)<;>rfl
theorem Di (l:List UInt8):lines l≠ []:=by
 rw [nV];split<;>simp
theorem vF (l:List UInt8):Lib.indexByte l 10=match bW l with
    | []=> -1
    | _::_=>((aQ l).length:Int):=by
  induction l with
  | nil=>rfl
  | cons c l ih =>
    simp only [Lib.indexByte,bW,aQ,List.dropWhile_cons,List.takeWhile_cons]
    by_cases hc:c=10
    · subst hc;simp
    · have h1:(c != 10)=true:=by simpa using hc
      have h2:(c == 10)=false:=QC
      rw [h1,h2]
      simp only [bW,aQ] at ih
      rw [ih]
      cases hd:l.dropWhile (· != 10) with
      | nil=>simp
      | cons x r=>first|(simp;done)|(simp;omega)
structure Rw where
 a:Nat
 ws:List Wd
 deriving DecidableEq
def dx (b:Nat) (w:Wd):Wd:=⟨w.q,w.t,w.a+b⟩
def bV (x:List UInt8) (a:Nat):Except (Nat × Nat) (List Rw) :=
 if 1000<x.length then .error (4,a) else match cK x with
  | .error b=> .error (3,a+b)
  | .ok []=> .ok []
  | .ok (w::ws)=> .ok [⟨a,(w::ws).map (dx a)⟩]
def dO:Except (Nat × Nat) (List Rw)→Except (Nat × Nat) (List Rw)→Except (Nat × Nat) (List Rw)
 | .error e,_=> .error e
 | .ok _, .error e=> .error e
 | .ok a, .ok b=> .ok (a++b)
def cE:List (List UInt8)→Nat→Except (Nat × Nat) (List Rw)
 | [],_=> .ok []
 | x::r,a=>dO (bV x a) (cE r (a+x.length+1))
def dE (l:List UInt8):Except (Nat × Nat) (List Rw):=if 20000<l.length then .error (4,20000) else cE (lines l) 0
theorem lS (e:Except (Nat × Nat) (List Rw)):dO (.ok []) e=e:=by cases e<;>rfl
theorem mo (a b c:Except (Nat × Nat) (List Rw)):dO (dO a b) c=dO a (dO b c):=by
 cases a<;>cases b<;>cases c<;>simp [dO]
theorem kL (e:Except (Nat × Nat) (List Rw)):dO e (.ok [])=e:=by cases e<;>simp [dO]
theorem nW:∀ (n:Nat) (l:List UInt8) (a:Nat),l.length≤n→(∀ b,bQ l a= .error b→b≤a+l.length)∧(∀ ws,bQ l a= .ok ws→ws.length≤l.length∧∀ w∈ws,w.a≤a+l.length):=by
  intro n
  induction n with
  | zero =>
    intro l a h
    have:l= []:=List.eq_nil_of_length_eq_zero P6
    subst this
    have e:bQ [] a= .ok []:=rfl
    rw [e]
    exact ⟨(fun b h=>by cases h),(fun ws h=>by cases h;simp)⟩
  | succ n ih =>
    intro l a h
    rw [cU]
    have hd:=cn aH l
    cases hl:l.dropWhile aH with
    | nil=>exact ⟨(fun b h=>by cases h),(fun ws h=>by cases h;simp)⟩
    | cons c r =>
      rw [hl] at hd
      simp only
      by_cases h35:c=35
      · rw [if_pos h35]
        exact ⟨(fun b h=>by cases h),(fun ws h=>by cases h;simp)⟩
      · rw [if_neg h35]
        cases hw:cD (c::r) with
        | none=>exact ⟨(fun b h=>by cases h;omega),(fun ws h=>by cases h)⟩
        | some q =>
          obtain ⟨q,t,r'⟩:=q
          have hlen:=dW hw
          obtain ⟨i1,i2⟩:=ih r' (a+(l.length - r'.length)) P6
          simp only
          cases hr:bQ r' (a+(l.length - r'.length)) with
          | error b =>
            have:=i1 b hr
            exact ⟨(fun b2 h=>by cases h;omega),(fun ws h=>by cases h)⟩
          | ok ws =>
            obtain ⟨i3,i4⟩:=i2 ws hr
            refine ⟨(fun b2 h=>by cases h),fun ws2 h=>?_⟩
            cases h
            refine ⟨by simp;omega,fun w hw=>?_⟩
            rcases List.mem_cons.1 hw with rfl|hw
            · simp only;omega
            · have:=i4 w hw;omega
theorem zQ {l:List UInt8} {b:Nat} (h:cK l= .error b):b≤l.length:=by
 have:=(nW l.length l 0 (Nat.le_refl _)).1 b h;omega
theorem zR {l:List UInt8} {ws:List Wd} (h:cK l= .ok ws):ws.length≤l.length∧∀ w∈ws,w.a≤l.length:=by
 have:=(nW l.length l 0 (Nat.le_refl _)).2 ws h
 refine ⟨this.1,fun w hw=>?_⟩
 have:=this.2 w hw;omega
end Go.Proofs.YtgephffbfiemeaaGreatDoor
