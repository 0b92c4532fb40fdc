/- A part of the proof of ResetOrders: contracts of functions, with plain laws that they need. -/
import Derived.Test.YtjhljokghikamaaGreatDoorProg
import Derived.Shelf.Small.Bits
import Derived.Shelf.Strconv.Itoa0
import Derived.Shelf.Strconv.Itoa1
import Derived.Shelf.LaysM
import Derived.Shelf.Strconv.Itoa2
import Derived.Shelf.Strconv.Itoa3
import Derived.Ground.Names2Prog
import Derived.Test.YtjhljokghikamaaGreatDoorVgEbJ
set_option linter.all false
namespace Go.Vg
structure Kq (p : Prop) : Prop where
 g : p
theorem zc {a b : Prop} (x : a) (y : b) : a ∧ b := ⟨x, y⟩
theorem mapAp {A B : Type} {f : A → B} {a b : List A} : (a ++ b).map f = a.map f ++ b.map f := List.map_append
theorem mapTk {A B : Type} {f : A → B} {a : List A} {i : Nat} : (a.map f).take i = (a.take i).map f := List.map_take.symm
theorem lenMp {A B : Type} {f : A → B} {a : List A} : (a.map f).length = a.length := List.length_map f
theorem lenAp {A : Type} {a b : List A} : (a ++ b).length = a.length + b.length := List.length_append
theorem lenNi {A : Type} : ([] : List A).length = 0 := rfl
theorem lenSt {A : Type} {a : List A} {i : Nat} {x : A} : (a.set i x).length = a.length := List.length_set
theorem drpZ {A : Type} {a : List A} : a.drop 0 = a := rfl
theorem drpS {A : Type} {x : A} {a : List A} {i : Nat} : (x :: a).drop (i + 1) = a.drop i := rfl
theorem beqSf {a : Int} : (a == a) = true := beq_self_eq_true a
theorem Abn.gfB {P : Program} {gds : List (Option Nat)} {l : List Oper} {s s1 : S} {dst : Option Nat} {op : Op} {type : TypeId} {pos : String} {after : Array Edge} {g : Nat × Bool} (hd : ∀ c, op ≠ .defer c) (h : gval gds s.t g = some false) (k : Abn P gds l (putA s dst (.opt false (.bool false))) s1) : Abn P gds (⟨dst, op, type, pos, after, some g⟩ :: l) s s1 := Abn.gfalse (.bool false) hd h k
theorem w_pre {A B : Prop} (a : A) (h : Kq A → B := by intro a; (((repeat (first | apply Wp.seq | apply Wp.block | (apply Wp.skip; dsimp only [sQ, tQ, bQ]))); (refine Wp.rn ?_))); exact a.g) : B := h ⟨a⟩
theorem x_pre {X A B : Prop} (x : X) (a : A) (h : Kq X → Kq A → B := by intro x a; (((repeat (first | apply Wp.seq | apply Wp.block | (apply Wp.skip; dsimp only [sQ, tQ, bQ]))); (refine Wp.rn ?_))); exact a.g) : B := h ⟨x⟩ ⟨a⟩
theorem w_go {A B : Prop} (a : A) (h : Kq A → B := by intro a; (repeat (first | apply Wp.seq | apply Wp.block | (apply Run.next; (simp only [push_cast, seval] <;> exact evT); ((try simp only [push_cast, seval]) <;> exact sT)) | (apply Run.nil; dsimp only [sQ, tQ, bQ]) | (refine Wp.rn ?_) | (apply Wp.skip; dsimp only [sQ, tQ, bQ]) | (apply Wp.exit; dsimp only [sQ, tQ, bQ]; simp only [reduceIte]))); exact a.g) : B := h ⟨a⟩
theorem x_go {X A B : Prop} (x : X) (a : A) (h : Kq X → Kq A → B := by intro x a; (repeat (first | apply Wp.seq | apply Wp.block | (apply Run.next; (simp only [push_cast, seval, x.g] <;> exact evT); ((try simp only [push_cast, seval, x.g]) <;> exact sT)) | (apply Run.nil; dsimp only [sQ, tQ, bQ]) | (refine Wp.rn ?_) | (apply Wp.skip; dsimp only [sQ, tQ, bQ]) | (apply Wp.exit; dsimp only [sQ, tQ, bQ]; simp only [reduceIte]))); exact a.g) : B := h ⟨x⟩ ⟨a⟩
theorem w_gob {A B : Prop} (a : A) (h : Kq A → B := by intro a; (repeat (first | apply Wp.seq | apply Wp.block | (apply Run.build; (simp only [push_cast, seval] <;> exact evT); ((try simp only [push_cast, seval]) <;> exact sT); dsimp only [S.put, optG]) | (apply Run.next; (simp only [push_cast, seval] <;> exact evT); ((try simp only [push_cast, seval]) <;> exact sT)) | (apply Run.nil; dsimp only [sQ, tQ, bQ]) | (refine Wp.rn ?_) | (apply Wp.skip; dsimp only [sQ, tQ, bQ]) | (apply Wp.exit; dsimp only [sQ, tQ, bQ]; simp only [reduceIte]))); exact a.g) : B := h ⟨a⟩
theorem x_gob {X A B : Prop} (x : X) (a : A) (h : Kq X → Kq A → B := by intro x a; (repeat (first | apply Wp.seq | apply Wp.block | (apply Run.build; (simp only [push_cast, seval, x.g] <;> exact evT); ((try simp only [push_cast, seval, x.g]) <;> exact sT); dsimp only [S.put, optG]) | (apply Run.next; (simp only [push_cast, seval, x.g] <;> exact evT); ((try simp only [push_cast, seval, x.g]) <;> exact sT)) | (apply Run.nil; dsimp only [sQ, tQ, bQ]) | (refine Wp.rn ?_) | (apply Wp.skip; dsimp only [sQ, tQ, bQ]) | (apply Wp.exit; dsimp only [sQ, tQ, bQ]; simp only [reduceIte]))); exact a.g) : B := h ⟨x⟩ ⟨a⟩
theorem w_gg {A B : Prop} (a : A) (h : Kq A → B := by intro a; (repeat (first | apply Wp.seq | apply Wp.block | (apply Run.next; (simp only [push_cast, seval] <;> exact evT); ((try simp only [push_cast, seval]) <;> exact sT)) | (apply Run.nil; dsimp only [sQ, tQ, bQ]) | (refine Wp.rn ?_) | (apply Wp.skip; dsimp only [sQ, tQ, bQ]) | (apply Wp.exit; dsimp only [sQ, tQ, bQ]; simp only [reduceIte]) | (apply Run.gtrue; (simp only [push_cast, seval] <;> exact evT); (simp only [push_cast, seval] <;> exact evT)) | (apply Run.gfalse (.bool false); (simp only [push_cast, seval] <;> exact evT); dsimp only [S.put, optG]) | (apply Wp.condT; (simp only [push_cast, seval] <;> exact evT)) | (apply Wp.condF; (simp only [push_cast, seval] <;> exact evT)))); exact a.g) : B := h ⟨a⟩
theorem x_gg {X A B : Prop} (x : X) (a : A) (h : Kq X → Kq A → B := by intro x a; (repeat (first | apply Wp.seq | apply Wp.block | (apply Run.next; (simp only [push_cast, seval, x.g] <;> exact evT); ((try simp only [push_cast, seval, x.g]) <;> exact sT)) | (apply Run.nil; dsimp only [sQ, tQ, bQ]) | (refine Wp.rn ?_) | (apply Wp.skip; dsimp only [sQ, tQ, bQ]) | (apply Wp.exit; dsimp only [sQ, tQ, bQ]; simp only [reduceIte]) | (apply Run.gtrue; (simp only [push_cast, seval, x.g] <;> exact evT); (simp only [push_cast, seval, x.g] <;> exact evT)) | (apply Run.gfalse (.bool false); (simp only [push_cast, seval, x.g] <;> exact evT); dsimp only [S.put, optG]) | (apply Wp.condT; (simp only [push_cast, seval, x.g] <;> exact evT)) | (apply Wp.condF; (simp only [push_cast, seval, x.g] <;> exact evT)))); exact a.g) : B := h ⟨x⟩ ⟨a⟩
theorem x_gs {X A B : Prop} (x : X) (a : A) (h : Kq X → Kq A → B := by intro x a; (repeat (first | apply Wp.seq | apply Wp.block | (apply Run.calm; exact rfl; (simp only [push_cast, seval, x.g] <;> exact evT); ((try simp only [push_cast, seval, x.g]) <;> exact sT)) | (apply Run.nil; dsimp only [sQ, tQ, bQ]) | (refine Wp.rn ?_) | (apply Wp.skip; dsimp only [sQ, tQ, bQ]) | (apply Wp.exit; dsimp only [sQ, tQ, bQ]; simp only [reduceIte]))); exact a.g) : B := h ⟨x⟩ ⟨a⟩
theorem x_gq {X A B : Prop} (x : X) (a : A) (h : Kq X → Kq A → B := by intro x a; (repeat (first | apply Wp.seq | apply Wp.block | (apply Run.calm; exact rfl; (simp only [push_cast, seval, x.g] <;> exact evT); ((try simp only [push_cast, seval, x.g]) <;> exact sT)) | (apply Run.nil; dsimp only [sQ, tQ, bQ]) | (refine Wp.rn ?_) | (apply Wp.skip; dsimp only [sQ, tQ, bQ]) | (apply Wp.exit; dsimp only [sQ, tQ, bQ]; simp only [reduceIte]) | (apply Run.gtrue; (simp only [push_cast, seval, x.g] <;> exact evT); (simp only [push_cast, seval, x.g] <;> exact evT)) | (apply Run.gfalse (.bool false); (simp only [push_cast, seval, x.g] <;> exact evT); dsimp only [S.put, optG]) | (apply Wp.condT; (simp only [push_cast, seval, x.g] <;> exact evT)) | (apply Wp.condF; (simp only [push_cast, seval, x.g] <;> exact evT)))); exact a.g) : B := h ⟨x⟩ ⟨a⟩
theorem w_mv {A B : Prop} (a : A) (h : Kq A → B := by intro a; ((repeat (first | apply Wp.seq | apply Wp.block | (apply Run.nil; dsimp only [sQ, tQ, bQ]) | (apply Wp.skip; dsimp only [sQ, tQ, bQ]) | (apply Wp.exit; dsimp only [sQ, tQ, bQ]; simp only [reduceIte])))); exact a.g) : B := h ⟨a⟩
theorem x_mv {X A B : Prop} (x : X) (a : A) (h : Kq X → Kq A → B := by intro x a; ((repeat (first | apply Wp.seq | apply Wp.block | (apply Run.nil; dsimp only [sQ, tQ, bQ]) | (apply Wp.skip; dsimp only [sQ, tQ, bQ]) | (apply Wp.exit; dsimp only [sQ, tQ, bQ]; simp only [reduceIte])))); exact a.g) : B := h ⟨x⟩ ⟨a⟩
theorem x_nx {X A B : Prop} (x : X) (a : A) (h : Kq X → Kq A → B := by intro x a; ((repeat (apply Abe.next; exact rfl; (simp only [push_cast, seval, x.g] <;> exact evT); ((try simp only [push_cast, seval, x.g]) <;> exact sT)))); exact a.g) : B := h ⟨x⟩ ⟨a⟩
theorem w_abn {A B : Prop} (a : A) (h : Kq A → B := by intro a; ((repeat (apply Abn.next; (simp only [push_cast, seval] <;> exact evT); ((try simp only [push_cast, seval]) <;> exact sT)))); exact a.g) : B := h ⟨a⟩
theorem x_abn {X A B : Prop} (x : X) (a : A) (h : Kq X → Kq A → B := by intro x a; ((repeat (apply Abn.next; (simp only [push_cast, seval, x.g] <;> exact evT); ((try simp only [push_cast, seval, x.g]) <;> exact sT)))); exact a.g) : B := h ⟨x⟩ ⟨a⟩
theorem x_abz {X A B : Prop} (x : X) (a : A) (h : Kq X → Kq A → B := by intro x a; ((repeat (first | (apply Abn.gfB; (intro c e; cases e); (simp only [push_cast, seval, x.g] <;> exact evT); dsimp only [putA]) | (apply Abn.next; (simp only [push_cast, seval, x.g] <;> exact evT); ((try simp only [push_cast, seval, x.g]) <;> exact sT))))); exact a.g) : B := h ⟨x⟩ ⟨a⟩
theorem w_gp {A B : Prop} (a : A) (h : Kq A → B := by intro a; ((repeat (first | (apply AbsG.bld; exact rfl; (simp only [push_cast, seval] <;> exact evT); ((try simp only [push_cast, seval]) <;> exact sT); dsimp only [upd]) | (apply AbsG.pure; exact rfl; exact rfl; (simp only [push_cast, seval] <;> exact evT); ((try simp only [push_cast, seval]) <;> exact sT); dsimp only [upd])))); exact a.g) : B := h ⟨a⟩
theorem x_gp {X A B : Prop} (x : X) (a : A) (h : Kq X → Kq A → B := by intro x a; ((repeat (first | (apply AbsG.bld; exact rfl; (simp only [push_cast, seval, x.g] <;> exact evT); ((try simp only [push_cast, seval, x.g]) <;> exact sT); dsimp only [upd]) | (apply AbsG.pure; exact rfl; exact rfl; (simp only [push_cast, seval, x.g] <;> exact evT); ((try simp only [push_cast, seval, x.g]) <;> exact sT); dsimp only [upd])))); exact a.g) : B := h ⟨x⟩ ⟨a⟩
theorem w_gp1 {A B : Prop} (a : A) (h : Kq A → B := by intro a; ((first | (apply AbsG.bld; exact rfl; (simp only [push_cast, seval] <;> exact evT); ((try simp only [push_cast, seval]) <;> exact sT); dsimp only [upd]) | (apply AbsG.pure; exact rfl; exact rfl; (simp only [push_cast, seval] <;> exact evT); ((try simp only [push_cast, seval]) <;> exact sT); dsimp only [upd]))); exact a.g) : B := h ⟨a⟩
theorem w_nr {A B : Prop} (a : A) (h : Kq A → B := by intro a; ((apply Run.next; (simp only [push_cast, seval] <;> exact evT); ((try simp only [push_cast, seval]) <;> exact sT))); exact a.g) : B := h ⟨a⟩
theorem x_nr {X A B : Prop} (x : X) (a : A) (h : Kq X → Kq A → B := by intro x a; ((apply Run.next; (simp only [push_cast, seval, x.g] <;> exact evT); ((try simp only [push_cast, seval, x.g]) <;> exact sT))); exact a.g) : B := h ⟨x⟩ ⟨a⟩
theorem w_nil {A B : Prop} (a : A) (h : Kq A → B := by intro a; ((apply Run.nil; dsimp only [sQ, tQ, bQ])); exact a.g) : B := h ⟨a⟩
theorem x_nil {X A B : Prop} (x : X) (a : A) (h : Kq X → Kq A → B := by intro x a; ((apply Run.nil; dsimp only [sQ, tQ, bQ])); exact a.g) : B := h ⟨x⟩ ⟨a⟩
theorem x_beg {X A B : Prop} (x : X) (a : A) (h : Kq X → Kq A → B := by intro x a; ((refine Wp.rn ?_)); exact a.g) : B := h ⟨x⟩ ⟨a⟩
theorem x_ef {X A B : Prop} (x : X) (a : A) (h : Kq X → Kq A → B := by intro x a; ((apply Abe.eff; exact rfl; (simp only [push_cast, seval, x.g] <;> exact evT); ((try simp only [push_cast, seval, x.g]) <;> exact sT); (try dsimp only [putA]))); exact a.g) : B := h ⟨x⟩ ⟨a⟩
theorem w_gl0 {A B : Prop} (a : A) (h : Kq A → B := by intro a; ((apply AbsG.lit0e; exact rfl; (simp only [push_cast, seval] <;> exact evT); ((try simp only [push_cast, seval]) <;> exact sT); dsimp only [upd])); exact a.g) : B := h ⟨a⟩
theorem w_gapf {A B : Prop} (a : A) (h : Kq A → B := by intro a; ((apply AbsG.apnF; exact rfl; (simp only [push_cast, seval] <;> exact evT); ((try simp only [push_cast, seval]) <;> exact sT); (simp only [push_cast, seval] <;> first | trivial | assumption | (simp; done)); dsimp only [upd])); exact a.g) : B := h ⟨a⟩
theorem x_rapf {X A B : Prop} (x : X) (a : A) (h : Kq X → Kq A → B := by intro x a; ((apply Run.apnF; (simp only [push_cast, seval, x.g] <;> exact evT); ((try simp only [push_cast, seval, x.g]) <;> exact sT); (simp only [push_cast, seval, x.g] <;> first | trivial | assumption | (simp; done)); (try dsimp only [putA]))); exact a.g) : B := h ⟨x⟩ ⟨a⟩
theorem w_fz1 {A B : Prop} (a : A) (h : Kq A → B := by intro a; ((apply AbsM.pureZ; exact rfl; kernel_rfl; exact rfl; (simp only [push_cast, seval] <;> exact evT); ((try simp only [push_cast, seval]) <;> exact sT); dsimp only [upd])); exact a.g) : B := h ⟨a⟩
theorem w_fzb {A B : Prop} (a : A) (h : Kq A → B := by intro a; ((apply AbsM.boxZ; exact rfl; kernel_rfl; exact rfl; (simp only [push_cast, seval] <;> exact evT); ((try simp only [push_cast, seval]) <;> exact sT); dsimp only [upd, alcV, List.length_cons, List.length_nil, Nat.reduceAdd])); exact a.g) : B := h ⟨a⟩
theorem x_wn {X A B : Prop} (x : X) (a : A) (h : Kq X → Kq A → B := by intro x a; ((apply AbW.both; exact rfl; kernel_rfl; (simp only [push_cast, seval, x.g] <;> exact evT); ((try simp only [push_cast, seval, x.g]) <;> exact sT); (simp only [push_cast, seval, x.g] <;> exact evT); ((try simp only [push_cast, seval, x.g]) <;> exact sT); dsimp only [upd])); exact a.g) : B := h ⟨x⟩ ⟨a⟩
theorem x_we {X A B : Prop} (x : X) (a : A) (h : Kq X → Kq A → B := by intro x a; ((apply AbW.early; exact rfl; kernel_rfl; (simp only [push_cast, seval, x.g] <;> exact evT); ((try simp only [push_cast, seval, x.g]) <;> exact sT); dsimp only [upd])); exact a.g) : B := h ⟨x⟩ ⟨a⟩
theorem x_w1 {X A B : Prop} (x : X) (a : A) (h : Kq X → Kq A → B := by intro x a; ((apply AbW.eff1; exact rfl; exact rfl; (simp only [push_cast, seval, x.g] <;> exact evT); ((try simp only [push_cast, seval, x.g]) <;> exact sT); (try dsimp only [upd]))); exact a.g) : B := h ⟨x⟩ ⟨a⟩
theorem x_w2 {X A B : Prop} (x : X) (a : A) (h : Kq X → Kq A → B := by intro x a; ((apply AbW.eff2; exact rfl; exact rfl; (simp only [push_cast, seval, x.g] <;> exact evT); ((try simp only [push_cast, seval, x.g]) <;> exact sT); (try dsimp only [upd]))); exact a.g) : B := h ⟨x⟩ ⟨a⟩
theorem w_retZ {A B : Prop} (a : A) (h : Kq A → B := by intro a; ((apply Wp.ret; (try dsimp only [sQ, tQ, bQ]); apply leave0; exact rfl; (simp only [push_cast, seval] <;> exact evT); all_goals (try simp only [push_cast, seval]); (try rfl))); exact a.g) : B := h ⟨a⟩
theorem x_retZ {X A B : Prop} (x : X) (a : A) (h : Kq X → Kq A → B := by intro x a; ((apply Wp.ret; (try dsimp only [sQ, tQ, bQ]); apply leave0; exact rfl; (simp only [push_cast, seval, x.g] <;> exact evT); all_goals (try simp only [push_cast, seval, x.g]); (try rfl))); exact a.g) : B := h ⟨x⟩ ⟨a⟩
theorem w_retAZ {A B : Prop} (a : A) (h : Kq A → B := by intro a; ((apply Wp.ret; (try dsimp only [sQ, tQ, bQ]); apply leaveA; exact rfl; (simp only [push_cast, seval] <;> exact evT); (focus (first | (simp only [push_cast, seval]; done) | trivial | (simp only [push_cast, seval]; trivial) | (simp; done))); (try simp only [push_cast, seval]))); exact a.g) : B := h ⟨a⟩
theorem x_retAZ {X A B : Prop} (x : X) (a : A) (h : Kq X → Kq A → B := by intro x a; ((apply Wp.ret; (try dsimp only [sQ, tQ, bQ]); apply leaveA; exact rfl; (simp only [push_cast, seval, x.g] <;> exact evT); (focus (first | (simp only [push_cast, seval, x.g]; done) | trivial | (simp only [push_cast, seval, x.g]; trivial) | (simp; done))); (try simp only [push_cast, seval, x.g]))); exact a.g) : B := h ⟨x⟩ ⟨a⟩
theorem w_retKZ {A B : Prop} (a : A) (h : Kq A → B := by intro a; ((apply Wp.ret; (try dsimp only [sQ, tQ, bQ]); apply leaveK; exact rfl; (simp only [push_cast, seval] <;> exact evT); (focus (first | (simp only [push_cast, seval]; done) | trivial | (simp only [push_cast, seval]; trivial) | (simp; done))); (focus (first | (simp only [push_cast, seval]; done) | trivial | (simp only [push_cast, seval]; trivial) | (simp; done))); (focus (first | (simp only [push_cast, seval]; done) | trivial | (simp only [push_cast, seval]; trivial) | (simp; done))); (try simp only [push_cast, seval]))); exact a.g) : B := h ⟨a⟩
theorem w_ev {B : Prop} (h : B := by ((simp only [push_cast, seval] <;> exact evT)); first | done | fail) : B := h
theorem x_ev {X B : Prop} (x : X) (h : Kq X → B := by intro x; ((simp only [push_cast, seval, x.g] <;> exact evT)); first | done | fail) : B := h ⟨x⟩
theorem w_al {B : Prop} (h : B := by ((focus (simp only [push_cast, seval] <;> first | trivial | assumption | (refine ⟨?_, ?_⟩ <;> assumption) | (simp; done)))); first | done | fail) : B := h
theorem x_al {X B : Prop} (x : X) (h : Kq X → B := by intro x; ((focus (simp only [push_cast, seval, x.g] <;> first | trivial | assumption | (refine ⟨?_, ?_⟩ <;> assumption) | (simp; done)))); first | done | fail) : B := h ⟨x⟩
theorem w_cl {B : Prop} (h : B := by (focus (first | (simp only [push_cast, seval]; done) | trivial | (simp only [push_cast, seval]; trivial) | (simp; done))); first | done | fail) : B := h
theorem x_cl {X B : Prop} (x : X) (h : Kq X → B := by intro x; (focus (first | (simp only [push_cast, seval, x.g]; done) | trivial | (simp only [push_cast, seval, x.g]; trivial) | (simp; done))); first | done | fail) : B := h ⟨x⟩
theorem w_ret {B : Prop} (h : B := by ((apply Wp.ret; (try dsimp only [sQ, tQ, bQ]); apply leave0; exact rfl; (simp only [push_cast, seval] <;> exact evT); all_goals (try simp only [push_cast, seval]); (try rfl))); first | done | fail) : B := h
theorem x_ret {X B : Prop} (x : X) (h : Kq X → B := by intro x; ((apply Wp.ret; (try dsimp only [sQ, tQ, bQ]); apply leave0; exact rfl; (simp only [push_cast, seval, x.g] <;> exact evT); all_goals (try simp only [push_cast, seval, x.g]); (try rfl))); first | done | fail) : B := h ⟨x⟩
theorem w_retA {B : Prop} (h : B := by ((apply Wp.ret; (try dsimp only [sQ, tQ, bQ]); apply leaveA; exact rfl; (simp only [push_cast, seval] <;> exact evT); (focus (first | (simp only [push_cast, seval]; done) | trivial | (simp only [push_cast, seval]; trivial) | (simp; done))); (try simp only [push_cast, seval]))); first | done | fail) : B := h
theorem x_retA {X B : Prop} (x : X) (h : Kq X → B := by intro x; ((apply Wp.ret; (try dsimp only [sQ, tQ, bQ]); apply leaveA; exact rfl; (simp only [push_cast, seval, x.g] <;> exact evT); (focus (first | (simp only [push_cast, seval, x.g]; done) | trivial | (simp only [push_cast, seval, x.g]; trivial) | (simp; done))); (try simp only [push_cast, seval, x.g]))); first | done | fail) : B := h ⟨x⟩
theorem w_retK {B : Prop} (h : B := by ((apply Wp.ret; (try dsimp only [sQ, tQ, bQ]); apply leaveK; exact rfl; (simp only [push_cast, seval] <;> exact evT); (focus (first | (simp only [push_cast, seval]; done) | trivial | (simp only [push_cast, seval]; trivial) | (simp; done))); (focus (first | (simp only [push_cast, seval]; done) | trivial | (simp only [push_cast, seval]; trivial) | (simp; done))); (focus (first | (simp only [push_cast, seval]; done) | trivial | (simp only [push_cast, seval]; trivial) | (simp; done))); (try simp only [push_cast, seval]))); first | done | fail) : B := h
structure Sl (n : Nat) : Prop where
 t : True
theorem slq (n : Nat) : Sl n := ⟨trivial⟩
theorem Wp.freezeQ {P : Program} {r : Option Nat} {c : Code} {Q : Exit → S → Prop} {s : S} {n : Nat} (_ : Sl n) {id ver i j sz : Nat} {l : List AV} {x : AV} (h : look s.t n = .optr id ver i j) (hm : s.m[id]? = some ⟨ver, .row sz l⟩) (hg : l[i]? = some x) (hj : j < x.cells.length) (k : Wp P r c Q { s with t := (n, .ref x.cells j) :: s.t, m := s.m.set id ⟨ver + 1, .row sz []⟩ }) : Wp P r c Q s := Wp.freezeP n h hm hg hj k
theorem w_fzP {k : Nat} {A B : Prop} (n : Sl k) (a : A) (h : Sl k → Kq A → B := by intro n a; ((apply Wp.freezeQ n; (simp only [push_cast, seval] <;> exact evT); (simp only [push_cast, seval] <;> exact evT); exact rfl; (focus (first | (simp [AV.cells]; done) | (simp only [push_cast, seval]; done))); simp only [AV.cells, List.set_cons_succ, List.set_cons_zero])); exact a.g) : B := h n ⟨a⟩
theorem x_fzP {k : Nat} {X A B : Prop} (x : X) (n : Sl k) (a : A) (h : Kq X → Sl k → Kq A → B := by intro x n a; ((apply Wp.freezeQ n; (simp only [push_cast, seval, x.g] <;> exact evT); (simp only [push_cast, seval, x.g] <;> exact evT); exact rfl; (focus (first | (simp [AV.cells]; done) | (simp only [push_cast, seval, x.g]; done))); simp only [AV.cells, List.set_cons_succ, List.set_cons_zero])); exact a.g) : B := h ⟨x⟩ n ⟨a⟩
theorem Wp.rnD {P : Program} {r : Option Nat} {Q : Exit → S → Prop} {s : S} {id : Nat} {ops hd tl : List Oper} {gds : List (Option Nat)} (n : Nat) (h : ∃ s1, Abn P gds hd s s1 ∧ Run P gds tl (Q .normal) s1) (hm : P.follows .mixedOrders = true := by exact mixed) (hg : ops.map (·.dst) = gds := by (dsimp only [List.map] <;> exact rfl)) (hB : gds.all (dstB s.n) = true := by exact rfl) (hD : drawB gds ops n = true := by kernel_rfl) (htk : ops.take n = hd := by (dsimp only [List.take] <;> exact rfl)) (hdr : ops.drop n = tl := by (dsimp only [List.drop] <;> exact rfl)) : Wp P r (.region id ops.toArray true) Q s := by
 obtain ⟨s1, a, b⟩ := h
 exact Wp.runD n hm hg hB hD htk hdr a b
theorem exAb {P : Program} {gds : List (Option Nat)} {hd tl : List Oper} {s s1 : S} {Q : S → Prop} (a : Abn P gds hd s s1) (b : Run P gds tl Q s1) : ∃ s1, Abn P gds hd s s1 ∧ Run P gds tl Q s1 := ⟨s1, a, b⟩
theorem Spec.bd {P : Program} {f : FuncId} {fn : Func} {c : Code} {rs : Array ResultVar} {nt : Nat} {args : List AV} {m : Mem} {Q : AV → Mem → Prop} (k : Nat) (hf : P.funcs[f]? = some fn) (hr : fn.results = rs) (ht : fn.ntmps = nt) (h : Wp P none c (leaves P rs.toList k Q) (entry args m nt)) (hb : fn.body = some c := by exact rfl) (hn : args.length ≤ nt := by simp) (hk : m.length ≤ k := by simp) : Spec P f args m Q := by
 subst hr ht
 exact Spec.of_body hf hb hn k hk h
theorem bT {A B : Prop} (a : A) (h : A → Kq B := by intro a; simp only [decide_eq_true_eq, decide_eq_false_iff_not, Bool.and_eq_true, Bool.or_eq_true, Bool.not_eq_true, Bool.not_eq_false, Bool.not_eq_true', Bool.not_eq_false', Bool.and_eq_false_iff, Bool.or_eq_false_iff, Int.not_lt, Int.not_le, Int.ofNat_lt, Int.ofNat_le] at a; exact ⟨a⟩) : B := (h a).g
end Go.Vg
namespace Go.Vg
open Go.RowKit
variable {P : Program} {gds : List (Option Nat)} {l : List Oper} {Q : S → Prop} {s : S}
end Go.Vg
namespace Go.Vg
open Go.RowKit
variable {P : Program} {X : Nat → Prop} {w : World} {ρ : Rho}
theorem Inv.renewMany {m : Mem} (hi : Inv X w ρ m) {w' : World} (hos : w'.os = w.os) (htp : w'.tape = w.tape) (hou : w'.output = w.output) (hsz : w.heap.size ≤ w'.heap.size) (hoth : ∀ b, b < w.heap.size → w'.heap[b]? = w.heap[b]?)
  {ρ3 : Rho} {m3 : Mem} (hl : ρ3.length = ρ.length) (hml : m3.length = m.length)
  (hc : ∀ (i : Nat) (r3 : RE) (e3 : Ent), ρ3[i]? = some r3 → m3[i]? = some e3 → (ρ[i]? = some r3 ∧ m[i]? = some e3) ∨ (∃ r : RE, ρ[i]? = some r ∧ r3.ver = r.ver + 1 ∧ e3.ver = r3.ver ∧ (∀ b, r3.blk = some b → w.heap.size ≤ b ∧ b < w'.heap.size) ∧ (Tr w ρ w' ρ3 → KindAt X w' ρ3 r3 e3.kind)))
  (hap : ∀ (i j : Nat) (ri rj : RE) (b : Nat), ρ3[i]? = some ri → ρ3[j]? = some rj → ri.blk = some b → rj.blk = some b → w.heap.size ≤ b → i = j) : Tr w ρ w' ρ3 ∧ Inv X w' ρ3 m3 := by
 have hlen := hi.len
 have hex : ∀ (i : Nat) (r3 : RE), ρ3[i]? = some r3 → ∃ e3, m3[i]? = some e3 := fun i r3 h => by
  have := (List.getElem?_eq_some_iff.1 h).1
  exact ⟨m3[i]'(by omega), List.getElem?_eq_getElem (by omega)⟩
 have htr : Tr w ρ w' ρ3 := by
  refine ⟨hos, htp, hou, hsz, fun i r h0 => ?_, fun b hb hlt => ⟨fun r3 h0 e => ?_, hoth b hlt⟩⟩
  ·have hi1 := (List.getElem?_eq_some_iff.1 h0).1
   have h3 : ρ3[i]? = some (ρ3[i]'(by omega)) := List.getElem?_eq_getElem (by omega)
   obtain ⟨e3, he⟩ := hex i _ h3
   rcases hc i _ e3 h3 he with ⟨q1, q2⟩ | ⟨r0, q1, q2, _⟩
   ·rw [h0] at q1
    exact ⟨_, h3, by rw [← Option.some.inj q1]; exact Nat.le_refl _, fun _ => (Option.some.inj q1).symm⟩
   ·rw [h0] at q1; cases q1
    exact ⟨_, h3, by omega, fun e => by omega⟩
  ·obtain ⟨i, hi'⟩ := List.getElem?_of_mem h0
   obtain ⟨e3, he⟩ := hex i _ hi'
   rcases hc i _ e3 hi' he with ⟨q1, q2⟩ | ⟨r0, q1, q2, q3, q4, _⟩
   ·exact hb r3 (List.mem_of_getElem? q1) e
   ·have := (q4 b e).1; omega
 refine ⟨htr, by omega, fun i r3 e3 h0 he => ?_, fun i j r1 r2 b h1 h2 hb1 hb2 => ?_, fun i r3 b h0 hb => ?_, fun b hb => Nat.lt_of_lt_of_le (hi.out b hb) hsz, hi.gd.tr htr⟩
 ·rcases hc i r3 e3 h0 he with ⟨q1, q2⟩ | ⟨r0, q1, q2, q3, q4, q5⟩
  ·obtain ⟨z0, z⟩ := hi.at_ i r3 e3 q1 q2
   exact ⟨z0, z.mono htr.kp fun b' hb' => hoth b' (hi.new i r3 b' q1 hb').1⟩
  ·exact ⟨q3.symm, q5 htr⟩
 ·rcases Nat.lt_or_ge b w.heap.size with hlt | hge
  ·obtain ⟨e1, he1⟩ := hex i _ h1
   obtain ⟨e2, he2⟩ := hex j _ h2
   rcases hc i r1 e1 h1 he1 with ⟨q1, _⟩ | ⟨_, _, _, _, q4, _⟩
   ·rcases hc j r2 e2 h2 he2 with ⟨z1, _⟩ | ⟨_, _, _, _, z4, _⟩
    ·exact hi.apart i j r1 r2 b q1 z1 hb1 hb2
    ·have := (z4 b hb2).1; omega
   ·have := (q4 b hb1).1; omega
  ·exact hap i j r1 r2 b h1 h2 hb1 hb2 hge
 ·obtain ⟨e3, he⟩ := hex i _ h0
  rcases hc i r3 e3 h0 he with ⟨q1, _⟩ | ⟨_, _, _, _, q4, _⟩
  ·have := hi.new i r3 b q1 hb
   exact ⟨Nat.lt_of_lt_of_le this.1 hsz, this.2⟩
  ·have := q4 b hb
   exact ⟨this.2, fun hx => by have := hi.out b hx; omega⟩
def set3 {α : Type} (l : List α) (i1 i2 i3 : Nat) (x y z : α) : List α := ((l.set i1 x).set i2 y).set i3 z
theorem set3_cases {α : Type} {l : List α} {i1 i2 i3 i : Nat} {x y z u : α} (h : (set3 l i1 i2 i3 x y z)[i]? = some u) : (i = i3 ∧ u = z) ∨ (i ≠ i3 ∧ i = i2 ∧ u = y) ∨ (i ≠ i3 ∧ i ≠ i2 ∧ i = i1 ∧ u = x) ∨ (i ≠ i3 ∧ i ≠ i2 ∧ i ≠ i1 ∧ l[i]? = some u) := by
 unfold set3 at h
 rcases getElem?_set_cases h with ⟨h1, _, h2⟩ | ⟨h1, h2⟩
 ·exact .inl ⟨h1, h2⟩
 rcases getElem?_set_cases h2 with ⟨h3, _, h4⟩ | ⟨h3, h4⟩
 ·exact .inr (.inl ⟨h1, h3, h4⟩)
 rcases getElem?_set_cases h4 with ⟨h5, _, h6⟩ | ⟨h5, h6⟩
 ·exact .inr (.inr (.inl ⟨h1, h3, h5, h6⟩))
 ·exact .inr (.inr (.inr ⟨h1, h3, h5, h6⟩))
theorem Spec.fresh3At {gds : List (Option Nat)} {t : List (Nat × AV)} {m : Mem} {fo : Operand} {args : List Operand} {tys : Array TypeId} {dst : Option Nat} {type : TypeId} {pos : String} {after : Array Edge} {f : FuncId} {caps vargs : List AV} {n1 n2 n3 : Nat} {x1 x2 x3 : List AV} {a0 a1 : Ent}
  (he : Enters P f) (hf : fnOf (evo t fo) = some (f, caps)) (hv : VwL m (args.map (evo t) ++ caps) vargs) (hc : Spec P f vargs [] fun x m' => x = .agg [.osl 2 1 0 n1, .osl 3 1 0 n2, .osl 4 1 0 n3] ∧ m' = [a0, a1, ⟨1, .row 1 x1⟩, ⟨1, .row 1 x2⟩, ⟨1, .row 1 x3⟩])
  (hpl : plainL x1 ∧ plainL x2 ∧ plainL x3) {i1 i2 i3 v1 v2 v3 : Nat} {k1 k2 k3 : Kind} (hid : m[i1]? = some ⟨v1, k1⟩ ∧ m[i2]? = some ⟨v2, k2⟩ ∧ m[i3]? = some ⟨v3, k3⟩) (hne : i1 ≠ i2 ∧ i1 ≠ i3 ∧ i2 ≠ i3) :
  StepAt P gds t m ⟨dst, callOp fo args tys, type, pos, after, none⟩ (set3 m i1 i2 i3 ⟨v1 + 1, .row 1 x1⟩ ⟨v2 + 1, .row 1 x2⟩ ⟨v3 + 1, .row 1 x3⟩) (.agg [.osl i1 (v1 + 1) 0 n1, .osl i2 (v2 + 1) 0 n2, .osl i3 (v3 + 1) 0 n3]) := by
 refine ⟨fun c e => (by cases e), fun X w ρ a hi hr hn => ⟨fun _ => .inr (.inr ?_), fun hw => (by simp [Region.wanted] at hw)⟩⟩
 obtain ⟨h1, h2⟩ := onames_call (fo := fo) (args := args) (tys := tys) (t := t) (a := a) (X := X) (w := w) (ρ := ρ) (fun n hn => hr n (.inr hn))
 obtain ⟨cs, hcs, hcr⟩ := fnOf_rel hf h1
 have hrun := run_call (P := P) (w := w) (o := ⟨dst, callOp fo args tys, type, pos, after, none⟩) rfl hcs he
 have hargs : Rvals X w ρ (args.map (evo t) ++ caps) (args.map a.eval ++ cs) := (Rvals_map args fun y hy => h2 y hy).append hcr
 refine ⟨f, _, hrun, ?_⟩
 refine (hc (fun _ => False) w [] _ (Inv.empty (fun _ h => h.elim) hi.gd.nil0) ((VwL.rel hi hv).1 _ hargs)).mono ?_
 rintro e w' ⟨v, x', m'', ρ', rfl, ⟨rfl, rfl⟩, y1, y2, y3⟩
 have hl5 : ρ'.length = 5 := y2.len
 obtain ⟨r0, r1, r2, r3, r4, rfl⟩ : ∃ r0 r1 r2 r3 r4, ρ' = [r0, r1, r2, r3, r4] := by
  match ρ', hl5 with
  | [r0, r1, r2, r3, r4], _ => exact ⟨r0, r1, r2, r3, r4, rfl⟩
 have hge : ∀ r ∈ [r0, r1, r2, r3, r4], ∀ b, r.blk = some b → w.heap.size ≤ b := fun r hr b hb => by
  rcases Nat.lt_or_ge b w.heap.size with h | h
  ·exact absurd hb ((y3.block b (fun r hr => by cases hr) h).1 r hr)
  ·exact h
 obtain ⟨u2, q21, q22, q23⟩ := y2.at_ 2 r2 _ rfl rfl
 obtain ⟨u3, q31, q32, q33⟩ := y2.at_ 3 r3 _ rfl rfl
 obtain ⟨u4, q41, q42, q43⟩ := y2.at_ 4 r4 _ rfl rfl
 have hlt : ∀ {i : Nat} {v : Nat} {k : Kind}, m[i]? = some ⟨v, k⟩ → ∃ r : RE, ρ[i]? = some r ∧ r.ver = v := fun {i v k} h => by
  have hil : i < ρ.length := by rw [hi.len]; exact (List.getElem?_eq_some_iff.1 h).1
  have h0 : ρ[i]? = some ρ[i] := List.getElem?_eq_getElem hil
  exact ⟨_, h0, (hi.at_ i _ _ h0 h).1⟩
 obtain ⟨s1, t1, o1⟩ := hlt hid.1
 obtain ⟨s2, t2, o2⟩ := hlt hid.2.1
 obtain ⟨s3, t3, o3⟩ := hlt hid.2.2
 subst o1 o2 o3
 obtain ⟨ρ3, hρ3⟩ : ∃ ρ3, ρ3 = set3 ρ i1 i2 i3 ⟨s1.ver + 1, r2.blk, r2.base, r2.size, r2.sz⟩ ⟨s2.ver + 1, r3.blk, r3.base, r3.size, r3.sz⟩ ⟨s3.ver + 1, r4.blk, r4.base, r4.size, r4.sz⟩ := ⟨_, rfl⟩
 have hl1 := (List.getElem?_eq_some_iff.1 t1).1
 have hl2 := (List.getElem?_eq_some_iff.1 t2).1
 have hl3 := (List.getElem?_eq_some_iff.1 t3).1
 have g1 : ρ3[i1]? = some ⟨s1.ver + 1, r2.blk, r2.base, r2.size, r2.sz⟩ := by
  rw [hρ3]; unfold set3
  rw [List.getElem?_set_ne (Ne.symm hne.2.1), List.getElem?_set_ne (Ne.symm hne.1), List.getElem?_set_self hl1]
 have g2 : ρ3[i2]? = some ⟨s2.ver + 1, r3.blk, r3.base, r3.size, r3.sz⟩ := by
  rw [hρ3]; unfold set3
  rw [List.getElem?_set_ne (Ne.symm hne.2.2), List.getElem?_set_self (by simpa using hl2)]
 have g3 : ρ3[i3]? = some ⟨s3.ver + 1, r4.blk, r4.base, r4.size, r4.sz⟩ := by
  rw [hρ3]; unfold set3
  rw [List.getElem?_set_self (by simpa using hl3)]
 obtain ⟨T, I⟩ := hi.renewMany (w' := w') (ρ3 := ρ3) (m3 := set3 m i1 i2 i3 ⟨s1.ver + 1, .row 1 x1⟩ ⟨s2.ver + 1, .row 1 x2⟩ ⟨s3.ver + 1, .row 1 x3⟩) y3.os y3.tape y3.output y3.size (fun b hb => (y3.block b (fun r hr => by cases hr) hb).2) (by rw [hρ3]; simp [set3]) (by simp [set3])
  (fun i r' e' hr' he' => by
   have kk : ∀ (r0 : RE) (j : Nat) (x : List AV) (vv : Nat), r0 ∈ [r0] → [r0, r1, r2, r3, r4][j]? = some r0 → True := fun _ _ _ _ _ _ => trivial
   rw [hρ3] at hr'
   rcases set3_cases hr' with ⟨a1, rfl⟩ | ⟨a1, a2, rfl⟩ | ⟨a1, a2, a3, rfl⟩ | ⟨a1, a2, a3, a4⟩ <;> rcases set3_cases he' with ⟨b1, rfl⟩ | ⟨b1, b2, rfl⟩ | ⟨b1, b2, b3, rfl⟩ | ⟨b1, b2, b3, b4⟩
   all_goals first
    | exact absurd a1 b1
    | exact absurd b1 a1
    | exact absurd a2 b2
    | exact absurd b2 a2
    | exact absurd a3 b3
    | exact absurd b3 a3
    | exact .inl ⟨a4, b4⟩
    | skip
   ·subst a1
    refine .inr ⟨s3, t3, rfl, rfl, fun b hb => ⟨hge r4 (by simp) b hb, (y2.new 4 r4 b rfl hb).1⟩, fun _ => ⟨q41, q42, fun b hb => ?_⟩⟩
    obtain ⟨z1, z2, z3⟩ := q43 b hb
    exact ⟨z1, z2, Rrow.plain hpl.2.2 z3⟩
   ·subst a2
    refine .inr ⟨s2, t2, rfl, rfl, fun b hb => ⟨hge r3 (by simp) b hb, (y2.new 3 r3 b rfl hb).1⟩, fun _ => ⟨q31, q32, fun b hb => ?_⟩⟩
    obtain ⟨z1, z2, z3⟩ := q33 b hb
    exact ⟨z1, z2, Rrow.plain hpl.2.1 z3⟩
   ·subst a3
    refine .inr ⟨s1, t1, rfl, rfl, fun b hb => ⟨hge r2 (by simp) b hb, (y2.new 2 r2 b rfl hb).1⟩, fun _ => ⟨q21, q22, fun b hb => ?_⟩⟩
    obtain ⟨z1, z2, z3⟩ := q23 b hb
    exact ⟨z1, z2, Rrow.plain hpl.1 z3⟩)
  (fun i j ri rj b h1 h2 hb1 hb2 hg => by
   rw [hρ3] at h1 h2
   have old : ∀ {i : Nat} {r : RE}, ρ[i]? = some r → r.blk = some b → False := fun h hb => by have := (hi.new _ _ b h hb).1; omega
   rcases set3_cases h1 with ⟨a1, rfl⟩ | ⟨a1, a2, rfl⟩ | ⟨a1, a2, a3, rfl⟩ | ⟨a1, a2, a3, a4⟩ <;> rcases set3_cases h2 with ⟨b1, rfl⟩ | ⟨b1, b2, rfl⟩ | ⟨b1, b2, b3, rfl⟩ | ⟨b1, b2, b3, b4⟩
   all_goals first
    | exact (old a4 hb1).elim
    | exact (old b4 hb2).elim
    | omega
    | (have := y2.apart 4 3 r4 r3 b rfl rfl hb1 hb2; omega)
    | (have := y2.apart 4 2 r4 r2 b rfl rfl hb1 hb2; omega)
    | (have := y2.apart 3 4 r3 r4 b rfl rfl hb1 hb2; omega)
    | (have := y2.apart 3 2 r3 r2 b rfl rfl hb1 hb2; omega)
    | (have := y2.apart 2 4 r2 r4 b rfl rfl hb1 hb2; omega)
    | (have := y2.apart 2 3 r2 r3 b rfl rfl hb1 hb2; omega))
 refine ⟨v, rfl, _, ?_, I, T⟩
 obtain ⟨vs, rfl, w1, ws1, e1, d1, w2, ws2, e2, d2, w3, ws3, e3, d3, e4⟩ := y1
 subst e4 e3 e2 e1
 obtain ⟨A, c, r, p1, p2, p3, p4⟩ := d1
 obtain ⟨A', c', r', p1', p2', p3', p4'⟩ := d2
 obtain ⟨A'', c'', r'', p1'', p2'', p3'', p4''⟩ := d3
 simp at p2 p2' p2''
 subst p2 p2' p2''
 refine ⟨_, rfl, _, _, rfl, ⟨A, c, _, p1, g1, Nat.le_refl _, fun _ => p4 u2.symm⟩, _, _, rfl, ⟨A', c', _, p1', g2, Nat.le_refl _, fun _ => p4' u3.symm⟩, _, _, rfl, ⟨A'', c'', _, p1'', g3, Nat.le_refl _, fun _ => p4'' u4.symm⟩, rfl⟩
theorem Run.fresh3At (i1 i2 i3 : Nat) {gds : List (Option Nat)} {l : List Oper} {Q : S → Prop} {s : S} {fo : Operand} {args : List Operand} {tys : Array TypeId} {dst : Option Nat} {type : TypeId} {pos : String} {after : Array Edge} {f : FuncId} {caps vargs : List AV} {n1 n2 n3 : Nat} {x1 x2 x3 : List AV} {a0 a1 : Ent} {v1 v2 v3 : Nat} {k1 k2 k3 : Kind}
  (hf : fnOf (evo s.t fo) = some (f, caps)) (he : Enters P f) (hc : Spec P f vargs [] fun x m' => x = .agg [.osl 2 1 0 n1, .osl 3 1 0 n2, .osl 4 1 0 n3] ∧ m' = [a0, a1, ⟨1, .row 1 x1⟩, ⟨1, .row 1 x2⟩, ⟨1, .row 1 x3⟩]) (hv : VwL s.m (args.map (evo s.t) ++ caps) vargs) (hpl : plainL x1 ∧ plainL x2 ∧ plainL x3)
  (hid : s.m[i1]? = some ⟨v1, k1⟩ ∧ s.m[i2]? = some ⟨v2, k2⟩ ∧ s.m[i3]? = some ⟨v3, k3⟩) (hne : i1 ≠ i2 ∧ i1 ≠ i3 ∧ i2 ≠ i3)
  (k : Run P gds l Q (putA ⟨s.t, set3 s.m i1 i2 i3 ⟨v1 + 1, .row 1 x1⟩ ⟨v2 + 1, .row 1 x2⟩ ⟨v3 + 1, .row 1 x3⟩, s.n, s.d⟩ dst (.agg [.osl i1 (v1 + 1) 0 n1, .osl i2 (v2 + 1) 0 n2, .osl i3 (v3 + 1) 0 n3]))) : Run P gds (⟨dst, callOp fo args tys, type, pos, after, none⟩ :: l) Q s :=
 (Spec.fresh3At (gds := gds) (dst := dst) (tys := tys) (type := type) (pos := pos) (after := after) he hf hv hc hpl hid hne).run (by rw [putA_eq] at k; exact k)
theorem leaveKN {P : Program} {s : S} {rs : List ResultVar} {xs : List AV} {p : Prop} {k : Nat} {C : AV → Mem → Prop} (hd : s.d = []) (h : resL P s rs = some (xs, p)) (hp : p) (hk : (packRes xs).ok k) (hm : ∀ e ∈ s.m.take k, e.kind.ok k) (hx : C (packRes xs) (s.m.take k)) : leaves P rs k C .normal s := by
 have e : { s with m := kill s.m s.d, d := [] } = s := by rw [hd]; cases s; simp only at hd; subst hd; rfl
 have e2 : kill s.m s.d = s.m := by rw [hd]; rfl
 exact ⟨by rw [hd]; simp, by rw [hd]; simp, xs, p, by rw [e]; exact h, hp, hk, by rw [e2]; exact hm, by rw [e2]; exact hx⟩
end Go.Vg
namespace Go.Proofs.Tryz
open Go.Vg
theorem uk_3 : uk Tryz.prog 3 = .int .i64 := by kernel_rfl
theorem tsz_3 : tsz Tryz.prog 3 = some 1 := by kernel_rfl
theorem agg_3 : agg? Tryz.prog 3 = some false := by kernel_rfl
theorem uk_4 : uk Tryz.prog 4 = .bool := by kernel_rfl
theorem tsz_4 : tsz Tryz.prog 4 = some 1 := by kernel_rfl
theorem agg_4 : agg? Tryz.prog 4 = some false := by kernel_rfl
theorem uk_9 : uk Tryz.prog 9 = .string := by kernel_rfl
theorem tsz_9 : tsz Tryz.prog 9 = some 1 := by kernel_rfl
theorem agg_9 : agg? Tryz.prog 9 = some false := by kernel_rfl
theorem uk_22 : uk Tryz.prog 22 = .slice 9 := by kernel_rfl
theorem tsz_22 : tsz Tryz.prog 22 = some 1 := by kernel_rfl
theorem agg_22 : agg? Tryz.prog 22 = some false := by kernel_rfl
theorem uk_23 : uk Tryz.prog 23 = .slice 73 := by kernel_rfl
theorem tsz_23 : tsz Tryz.prog 23 = some 1 := by kernel_rfl
theorem agg_23 : agg? Tryz.prog 23 = some false := by kernel_rfl
theorem uk_24 : uk Tryz.prog 24 = .slice 98 := by kernel_rfl
theorem tsz_24 : tsz Tryz.prog 24 = some 1 := by kernel_rfl
theorem agg_24 : agg? Tryz.prog 24 = some false := by kernel_rfl
theorem uk_25 : uk Tryz.prog 25 = .slice 100 := by kernel_rfl
theorem tsz_25 : tsz Tryz.prog 25 = some 1 := by kernel_rfl
theorem agg_25 : agg? Tryz.prog 25 = some false := by kernel_rfl
theorem uk_26 : uk Tryz.prog 26 = .slice 103 := by kernel_rfl
theorem tsz_26 : tsz Tryz.prog 26 = some 1 := by kernel_rfl
theorem agg_26 : agg? Tryz.prog 26 = some false := by kernel_rfl
theorem uk_27 : uk Tryz.prog 27 = .slice 108 := by kernel_rfl
theorem tsz_27 : tsz Tryz.prog 27 = some 1 := by kernel_rfl
theorem agg_27 : agg? Tryz.prog 27 = some false := by kernel_rfl
theorem uk_29 : uk Tryz.prog 29 = .slice 136 := by kernel_rfl
theorem tsz_29 : tsz Tryz.prog 29 = some 1 := by kernel_rfl
theorem agg_29 : agg? Tryz.prog 29 = some false := by kernel_rfl
theorem tsz_31 : tsz Tryz.prog 31 = some 8 := by kernel_rfl
theorem agg_31 : agg? Tryz.prog 31 = some true := by kernel_rfl
theorem fOff_31_0 : fOff Tryz.prog 31 0 = some (0, 22) := by kernel_rfl
theorem fOff_31_1 : fOff Tryz.prog 31 1 = some (1, 23) := by kernel_rfl
theorem fOff_31_2 : fOff Tryz.prog 31 2 = some (2, 24) := by kernel_rfl
theorem fOff_31_3 : fOff Tryz.prog 31 3 = some (3, 25) := by kernel_rfl
theorem fOff_31_4 : fOff Tryz.prog 31 4 = some (4, 26) := by kernel_rfl
theorem fOff_31_5 : fOff Tryz.prog 31 5 = some (5, 27) := by kernel_rfl
theorem fOff_31_6 : fOff Tryz.prog 31 6 = some (6, 3) := by kernel_rfl
theorem fOff_31_7 : fOff Tryz.prog 31 7 = some (7, 29) := by kernel_rfl
theorem uk_32 : uk Tryz.prog 32 = .slice 3 := by kernel_rfl
theorem tsz_32 : tsz Tryz.prog 32 = some 1 := by kernel_rfl
theorem agg_32 : agg? Tryz.prog 32 = some false := by kernel_rfl
theorem tsz_34 : tsz Tryz.prog 34 = some 3 := by kernel_rfl
theorem agg_34 : agg? Tryz.prog 34 = some true := by kernel_rfl
theorem fOff_34_0 : fOff Tryz.prog 34 0 = some (0, 32) := by kernel_rfl
theorem fOff_34_1 : fOff Tryz.prog 34 1 = some (1, 32) := by kernel_rfl
theorem fOff_34_2 : fOff Tryz.prog 34 2 = some (2, 32) := by kernel_rfl
theorem uk_38 : uk Tryz.prog 38 = .slice 45 := by kernel_rfl
theorem tsz_45 : tsz Tryz.prog 45 = some 3 := by kernel_rfl
theorem agg_45 : agg? Tryz.prog 45 = some true := by kernel_rfl
theorem fOff_45_0 : fOff Tryz.prog 45 0 = some (0, 3) := by kernel_rfl
theorem fOff_45_1 : fOff Tryz.prog 45 1 = some (1, 3) := by kernel_rfl
theorem fOff_45_2 : fOff Tryz.prog 45 2 = some (2, 3) := by kernel_rfl
theorem tsz_73 : tsz Tryz.prog 73 = some 4 := by kernel_rfl
theorem agg_73 : agg? Tryz.prog 73 = some true := by kernel_rfl
theorem fOff_73_0 : fOff Tryz.prog 73 0 = some (0, 9) := by kernel_rfl
theorem fOff_73_1 : fOff Tryz.prog 73 1 = some (1, 3) := by kernel_rfl
theorem fOff_73_2 : fOff Tryz.prog 73 2 = some (2, 3) := by kernel_rfl
theorem fOff_73_3 : fOff Tryz.prog 73 3 = some (3, 3) := by kernel_rfl
theorem tsz_84 : tsz Tryz.prog 84 = some 15 := by kernel_rfl
theorem agg_84 : agg? Tryz.prog 84 = some true := by kernel_rfl
theorem fOff_84_0 : fOff Tryz.prog 84 0 = some (0, 31) := by kernel_rfl
theorem fOff_84_1 : fOff Tryz.prog 84 1 = some (8, 34) := by kernel_rfl
theorem fOff_84_2 : fOff Tryz.prog 84 2 = some (11, 34) := by kernel_rfl
theorem fOff_84_3 : fOff Tryz.prog 84 3 = some (14, 3) := by kernel_rfl
theorem tsz_89 : tsz Tryz.prog 89 = some 19 := by kernel_rfl
theorem fOff_89_0 : fOff Tryz.prog 89 0 = some (0, 84) := by kernel_rfl
theorem fOff_89_1 : fOff Tryz.prog 89 1 = some (15, 3) := by kernel_rfl
theorem fOff_89_2 : fOff Tryz.prog 89 2 = some (16, 45) := by kernel_rfl
theorem uk_90 : uk Tryz.prog 90 = .slice 89 := by kernel_rfl
theorem uk_91 : uk Tryz.prog 91 = .map 9 3 := by kernel_rfl
theorem tsz_98 : tsz Tryz.prog 98 = some 3 := by kernel_rfl
theorem agg_98 : agg? Tryz.prog 98 = some true := by kernel_rfl
theorem fOff_98_0 : fOff Tryz.prog 98 0 = some (0, 9) := by kernel_rfl
theorem fOff_98_1 : fOff Tryz.prog 98 1 = some (1, 3) := by kernel_rfl
theorem fOff_98_2 : fOff Tryz.prog 98 2 = some (2, 29) := by kernel_rfl
theorem tsz_100 : tsz Tryz.prog 100 = some 3 := by kernel_rfl
theorem agg_100 : agg? Tryz.prog 100 = some true := by kernel_rfl
theorem fOff_100_0 : fOff Tryz.prog 100 0 = some (0, 3) := by kernel_rfl
theorem fOff_100_1 : fOff Tryz.prog 100 1 = some (1, 3) := by kernel_rfl
theorem fOff_100_2 : fOff Tryz.prog 100 2 = some (2, 29) := by kernel_rfl
theorem uk_101 : uk Tryz.prog 101 = .slice 106 := by kernel_rfl
theorem tsz_101 : tsz Tryz.prog 101 = some 1 := by kernel_rfl
theorem agg_101 : agg? Tryz.prog 101 = some false := by kernel_rfl
theorem tsz_103 : tsz Tryz.prog 103 = some 8 := by kernel_rfl
theorem agg_103 : agg? Tryz.prog 103 = some true := by kernel_rfl
theorem fOff_103_0 : fOff Tryz.prog 103 0 = some (0, 9) := by kernel_rfl
theorem fOff_103_1 : fOff Tryz.prog 103 1 = some (1, 3) := by kernel_rfl
theorem fOff_103_2 : fOff Tryz.prog 103 2 = some (2, 3) := by kernel_rfl
theorem fOff_103_3 : fOff Tryz.prog 103 3 = some (3, 32) := by kernel_rfl
theorem fOff_103_4 : fOff Tryz.prog 103 4 = some (4, 29) := by kernel_rfl
theorem fOff_103_5 : fOff Tryz.prog 103 5 = some (5, 101) := by kernel_rfl
theorem fOff_103_6 : fOff Tryz.prog 103 6 = some (6, 32) := by kernel_rfl
theorem fOff_103_7 : fOff Tryz.prog 103 7 = some (7, 32) := by kernel_rfl
theorem tsz_106 : tsz Tryz.prog 106 = some 2 := by kernel_rfl
theorem agg_106 : agg? Tryz.prog 106 = some true := by kernel_rfl
theorem fOff_106_0 : fOff Tryz.prog 106 0 = some (0, 3) := by kernel_rfl
theorem fOff_106_1 : fOff Tryz.prog 106 1 = some (1, 3) := by kernel_rfl
theorem tsz_108 : tsz Tryz.prog 108 = some 3 := by kernel_rfl
theorem agg_108 : agg? Tryz.prog 108 = some true := by kernel_rfl
theorem fOff_108_0 : fOff Tryz.prog 108 0 = some (0, 29) := by kernel_rfl
theorem fOff_108_1 : fOff Tryz.prog 108 1 = some (1, 106) := by kernel_rfl
theorem uk_114 : uk Tryz.prog 114 = .slice 32 := by kernel_rfl
theorem uk_130 : uk Tryz.prog 130 = .slice 4 := by kernel_rfl
theorem tsz_136 : tsz Tryz.prog 136 = some 3 := by kernel_rfl
theorem agg_136 : agg? Tryz.prog 136 = some true := by kernel_rfl
theorem fOff_136_0 : fOff Tryz.prog 136 0 = some (0, 3) := by kernel_rfl
theorem fOff_136_1 : fOff Tryz.prog 136 1 = some (1, 3) := by kernel_rfl
theorem fOff_136_2 : fOff Tryz.prog 136 2 = some (2, 4) := by kernel_rfl
theorem tsz_140 : tsz Tryz.prog 140 = some 1 := by kernel_rfl
theorem agg_140 : agg? Tryz.prog 140 = some false := by kernel_rfl
theorem uk_148 : uk Tryz.prog 148 = .other := by kernel_rfl
theorem arT_148 : arT Tryz.prog 148 = some (2, 3) := by kernel_rfl
theorem tsz_148 : tsz Tryz.prog 148 = some 2 := by kernel_rfl
theorem agg_148 : agg? Tryz.prog 148 = some true := by kernel_rfl
theorem uk_149 : uk Tryz.prog 149 = .other := by kernel_rfl
theorem arT_149 : arT Tryz.prog 149 = some (2, 148) := by kernel_rfl
theorem tsz_154 : tsz Tryz.prog 154 = some 1 := by kernel_rfl
theorem agg_154 : agg? Tryz.prog 154 = some false := by kernel_rfl
theorem tsz_156 : tsz Tryz.prog 156 = some 1 := by kernel_rfl
theorem agg_156 : agg? Tryz.prog 156 = some false := by kernel_rfl
theorem tsz_158 : tsz Tryz.prog 158 = some 1 := by kernel_rfl
theorem agg_158 : agg? Tryz.prog 158 = some false := by kernel_rfl
theorem tsz_160 : tsz Tryz.prog 160 = some 1 := by kernel_rfl
theorem agg_160 : agg? Tryz.prog 160 = some false := by kernel_rfl
theorem fOff_163_0 : fOff Tryz.prog 163 0 = some (0, 31) := by kernel_rfl
theorem fOff_163_1 : fOff Tryz.prog 163 1 = some (8, 34) := by kernel_rfl
theorem tsz_190 : tsz Tryz.prog 190 = some 1 := by kernel_rfl
theorem agg_190 : agg? Tryz.prog 190 = some false := by kernel_rfl
theorem fplaces_31 : fplaces Tryz.prog 31 = some [(0, 1), (1, 1), (2, 1), (3, 1), (4, 1), (5, 1), (6, 1), (7, 1)] := by kernel_rfl
theorem fplaces_34 : fplaces Tryz.prog 34 = some [(0, 1), (1, 1), (2, 1)] := by kernel_rfl
theorem fplaces_45 : fplaces Tryz.prog 45 = some [(0, 1), (1, 1), (2, 1)] := by kernel_rfl
theorem fplaces_84 : fplaces Tryz.prog 84 = some [(0, 8), (8, 3), (11, 3), (14, 1)] := by kernel_rfl
theorem fplaces_89 : fplaces Tryz.prog 89 = some [(0, 15), (15, 1), (16, 3)] := by kernel_rfl
theorem fplaces_148 : fplaces Tryz.prog 148 = some [(0, 1), (1, 1)] := by kernel_rfl
theorem fplaces_149 : fplaces Tryz.prog 149 = some [(0, 2), (2, 2)] := by kernel_rfl
theorem fplaces_163 : fplaces Tryz.prog 163 = some [(0, 8), (8, 3)] := by kernel_rfl
theorem tby_3 : tby Tryz.prog 3 = some 8 := by kernel_rfl
theorem tby_4 : tby Tryz.prog 4 = some 1 := by kernel_rfl
theorem tby_9 : tby Tryz.prog 9 = some 16 := by kernel_rfl
theorem tby_45 : tby Tryz.prog 45 = some 24 := by kernel_rfl
theorem tby_73 : tby Tryz.prog 73 = some 40 := by kernel_rfl
theorem tby_89 : tby Tryz.prog 89 = some 360 := by kernel_rfl
theorem tby_98 : tby Tryz.prog 98 = some 48 := by kernel_rfl
theorem tby_100 : tby Tryz.prog 100 = some 40 := by kernel_rfl
theorem tby_103 : tby Tryz.prog 103 = some 152 := by kernel_rfl
theorem tby_106 : tby Tryz.prog 106 = some 16 := by kernel_rfl
theorem tby_108 : tby Tryz.prog 108 = some 40 := by kernel_rfl
theorem tby_136 : tby Tryz.prog 136 = some 24 := by kernel_rfl
theorem zAV_3 : zAV Tryz.prog 3 = some (.val (.int .i64 0)) := by kernel_rfl
theorem zAV_4 : zAV Tryz.prog 4 = some (.val (.bool false)) := by kernel_rfl
theorem zAV_31 : zAV Tryz.prog 31 = some (.agg [.emp, .emp, .emp, .emp, .emp, .emp, .val (.int .i64 0), .emp]) := by kernel_rfl
theorem zAV_34 : zAV Tryz.prog 34 = some (.agg [.emp, .emp, .emp]) := by kernel_rfl
theorem zAV_45 : zAV Tryz.prog 45 = some (.agg [.val (.int .i64 0), .val (.int .i64 0), .val (.int .i64 0)]) := by kernel_rfl
theorem zAV_73 : zAV Tryz.prog 73 = some (.agg [.val (.string .empty), .val (.int .i64 0), .val (.int .i64 0), .val (.int .i64 0)]) := by kernel_rfl
theorem zAV_84 : zAV Tryz.prog 84 = some (.agg [.emp, .emp, .emp, .emp, .emp, .emp, .val (.int .i64 0), .emp, .emp, .emp, .emp, .emp, .emp, .emp, .val (.int .i64 0)]) := by kernel_rfl
theorem zAV_89 : zAV Tryz.prog 89 = some (.agg [.emp, .emp, .emp, .emp, .emp, .emp, .val (.int .i64 0), .emp, .emp, .emp, .emp, .emp, .emp, .emp, .val (.int .i64 0), .val (.int .i64 0), .val (.int .i64 0), .val (.int .i64 0), .val (.int .i64 0)]) := by kernel_rfl
theorem zAV_98 : zAV Tryz.prog 98 = some (.agg [.val (.string .empty), .val (.int .i64 0), .emp]) := by kernel_rfl
theorem zAV_100 : zAV Tryz.prog 100 = some (.agg [.val (.int .i64 0), .val (.int .i64 0), .emp]) := by kernel_rfl
theorem zAV_103 : zAV Tryz.prog 103 = some (.agg [.val (.string .empty), .val (.int .i64 0), .val (.int .i64 0), .emp, .emp, .emp, .emp, .emp]) := by kernel_rfl
theorem zAV_106 : zAV Tryz.prog 106 = some (.agg [.val (.int .i64 0), .val (.int .i64 0)]) := by kernel_rfl
theorem zAV_108 : zAV Tryz.prog 108 = some (.agg [.emp, .val (.int .i64 0), .val (.int .i64 0)]) := by kernel_rfl
theorem zAV_148 : zAV Tryz.prog 148 = some (.agg [.val (.int .i64 0), .val (.int .i64 0)]) := by kernel_rfl
theorem zAV_149 : zAV Tryz.prog 149 = some (.agg [.val (.int .i64 0), .val (.int .i64 0), .val (.int .i64 0), .val (.int .i64 0)]) := by kernel_rfl
theorem zAV_154 : zAV Tryz.prog 154 = some (.val .nilFunc) := by kernel_rfl
theorem zAV_163 : zAV Tryz.prog 163 = some (.agg [.emp, .emp, .emp, .emp, .emp, .emp, .val (.int .i64 0), .emp, .emp, .emp, .emp]) := by kernel_rfl
theorem zav_3 : zav Tryz.prog 3 = .val (.int .i64 0) := by kernel_rfl
theorem zav_4 : zav Tryz.prog 4 = .val (.bool false) := by kernel_rfl
theorem zav_9 : zav Tryz.prog 9 = .val (.string .empty) := by kernel_rfl
theorem zav_22 : zav Tryz.prog 22 = .lst 1 [] := by kernel_rfl
theorem zav_24 : zav Tryz.prog 24 = .lst 1 [] := by kernel_rfl
theorem zav_25 : zav Tryz.prog 25 = .lst 1 [] := by kernel_rfl
theorem zav_26 : zav Tryz.prog 26 = .lst 1 [] := by kernel_rfl
theorem zav_27 : zav Tryz.prog 27 = .lst 1 [] := by kernel_rfl
theorem zav_29 : zav Tryz.prog 29 = .lst 1 [] := by kernel_rfl
theorem zav_32 : zav Tryz.prog 32 = .lst 1 [] := by kernel_rfl
theorem zav_45 : zav Tryz.prog 45 = .agg [.val (.int .i64 0), .val (.int .i64 0), .val (.int .i64 0)] := by kernel_rfl
theorem zav_73 : zav Tryz.prog 73 = .agg [.val (.string .empty), .val (.int .i64 0), .val (.int .i64 0), .val (.int .i64 0)] := by kernel_rfl
theorem zav_98 : zav Tryz.prog 98 = .agg [.val (.string .empty), .val (.int .i64 0), .emp] := by kernel_rfl
theorem zav_100 : zav Tryz.prog 100 = .agg [.val (.int .i64 0), .val (.int .i64 0), .emp] := by kernel_rfl
theorem zav_101 : zav Tryz.prog 101 = .lst 1 [] := by kernel_rfl
theorem zav_103 : zav Tryz.prog 103 = .agg [.val (.string .empty), .val (.int .i64 0), .val (.int .i64 0), .emp, .emp, .emp, .emp, .emp] := by kernel_rfl
theorem zav_106 : zav Tryz.prog 106 = .agg [.val (.int .i64 0), .val (.int .i64 0)] := by kernel_rfl
theorem zav_108 : zav Tryz.prog 108 = .agg [.emp, .val (.int .i64 0), .val (.int .i64 0)] := by kernel_rfl
theorem zav_136 : zav Tryz.prog 136 = .agg [.val (.int .i64 0), .val (.int .i64 0), .val (.bool false)] := by kernel_rfl
theorem zav_140 : zav Tryz.prog 140 = .any := by kernel_rfl
theorem elB_3 : elB Tryz.prog 3 = true := by kernel_rfl
theorem elB_4 : elB Tryz.prog 4 = true := by kernel_rfl
theorem elB_9 : elB Tryz.prog 9 = true := by kernel_rfl
theorem elB_32 : elB Tryz.prog 32 = true := by kernel_rfl
theorem elB_45 : elB Tryz.prog 45 = true := by kernel_rfl
theorem elB_73 : elB Tryz.prog 73 = true := by kernel_rfl
theorem elB_89 : elB Tryz.prog 89 = true := by kernel_rfl
theorem elB_98 : elB Tryz.prog 98 = true := by kernel_rfl
theorem elB_100 : elB Tryz.prog 100 = true := by kernel_rfl
theorem elB_103 : elB Tryz.prog 103 = true := by kernel_rfl
theorem elB_106 : elB Tryz.prog 106 = true := by kernel_rfl
theorem elB_108 : elB Tryz.prog 108 = true := by kernel_rfl
theorem elB_136 : elB Tryz.prog 136 = true := by kernel_rfl
theorem cmpT_45 : cmpT Tryz.prog 45 = some [0, 0, 0] := by kernel_rfl
attribute [push_cast] uk_3 uk_4 uk_9 uk_22 uk_23 uk_24 uk_25 uk_26 uk_27 uk_29 uk_32 uk_38
attribute [push_cast] uk_90 uk_91 uk_101 uk_114 uk_130
attribute [push_cast] uk_148 uk_149
attribute [push_cast] arT_148 arT_149
attribute [push_cast] tsz_3 tsz_4 tsz_9 tsz_22 tsz_23 tsz_24 tsz_25 tsz_26 tsz_27 tsz_29 tsz_31 tsz_32 tsz_34
attribute [push_cast] tsz_45 tsz_73 tsz_84
attribute [push_cast] tsz_89 tsz_98 tsz_100 tsz_101 tsz_103 tsz_106 tsz_108
attribute [push_cast] tsz_136 tsz_140 tsz_148 tsz_154 tsz_156 tsz_158 tsz_160
attribute [push_cast] tsz_190
attribute [push_cast] agg_3 agg_4 agg_9 agg_22 agg_23 agg_24 agg_25 agg_26 agg_27 agg_29 agg_31 agg_32 agg_34
attribute [push_cast] agg_45 agg_73 agg_84
attribute [push_cast] agg_98 agg_100 agg_101 agg_103 agg_106 agg_108
attribute [push_cast] agg_136 agg_140 agg_148 agg_154 agg_156 agg_158 agg_160
attribute [push_cast] agg_190
attribute [push_cast] fOff_31_0 fOff_31_1 fOff_31_2 fOff_31_3 fOff_31_4 fOff_31_5 fOff_31_6 fOff_31_7 fOff_34_0 fOff_34_1 fOff_34_2 fOff_45_0
attribute [push_cast] fOff_45_1 fOff_45_2 fOff_73_0 fOff_73_1 fOff_73_2 fOff_73_3 fOff_84_0 fOff_84_1 fOff_84_2 fOff_84_3 fOff_89_0 fOff_89_1 fOff_89_2 fOff_98_0 fOff_98_1 fOff_98_2 fOff_100_0
attribute [push_cast] fOff_100_1 fOff_100_2 fOff_103_0 fOff_103_1 fOff_103_2 fOff_103_3 fOff_103_4 fOff_103_5 fOff_103_6 fOff_103_7 fOff_106_0 fOff_106_1 fOff_108_0 fOff_108_1 fOff_136_0 fOff_136_1 fOff_136_2 fOff_163_0 fOff_163_1
attribute [push_cast] tby_3 tby_4 tby_9 tby_45 tby_73 tby_89 tby_98 tby_100 tby_103 tby_106 tby_108 tby_136
attribute [push_cast] zAV_3 zAV_4 zAV_31 zAV_34
attribute [push_cast] zAV_45 zAV_73 zAV_84 zAV_89
attribute [push_cast] zAV_98 zAV_100 zAV_103 zAV_106 zAV_108
attribute [push_cast] zAV_148 zAV_149 zAV_154 zAV_163
attribute [push_cast] elB_3 elB_4 elB_9 elB_32 elB_45 elB_73 elB_89 elB_98 elB_100 elB_103 elB_106 elB_108 elB_136
attribute [push_cast] fplaces_31 fplaces_34 fplaces_45 fplaces_84 fplaces_89 fplaces_148 fplaces_149 fplaces_163
attribute [push_cast] zav_3 zav_4 zav_9 zav_22 zav_24 zav_25 zav_26 zav_27 zav_29 zav_32
attribute [push_cast] zav_45 zav_73
attribute [push_cast] zav_98 zav_100 zav_101 zav_103 zav_106 zav_108
attribute [push_cast] zav_136 zav_140
attribute [push_cast] cmpT_45
theorem mixed : Tryz.prog.follows .mixedOrders = true := by kernel_rfl
end Go.Proofs.Tryz
namespace Go.Proofs
open Go.Shelf
def Tryz.laysM171_ren : Go.Shelf.Ren := ⟨fun | 171 => 49 | 243 => 88 | 246 => 107 | 283 => 132 | 284 => 133 | 285 => 134 | 286 => 135 | 129 => 129 | 317 => 162 | 318 => 163 | 319 => 164 | 320 => 165 | 337 => 180 | 338 => 181 | n => n, fun | 3 => 3 | 9 => 9 | 2 => 2 | 4 => 4 | 171 => 179 | 0 => 0 | 53 => 175 | 37 => 181 | 5 => 5 | 173 => 182 | 212 => 208 | 51 => 173 | 20 => 20 | 213 => 209 | 46 => 145 | 232 => 227 | 233 => 228 | n => n, fun | 17 => 0 | 18 => 2 | 19 => 3 | n => n⟩
theorem Tryz.laysM171 : Go.Proofs.LaysM.n171 Tryz.prog Tryz.laysM171_ren := {
 mixed := by kernel_rfl
 f129 := Tryz.func129.trans (congrArg some (by kernel_rfl))
 f171 := Tryz.func49.trans (congrArg some (by kernel_rfl))
 f243 := Tryz.func88.trans (congrArg some (by kernel_rfl))
 f246 := Tryz.func107.trans (congrArg some (by kernel_rfl))
 f283 := Tryz.func132.trans (congrArg some (by kernel_rfl))
 f284 := Tryz.func133.trans (congrArg some (by kernel_rfl))
 f285 := Tryz.func134.trans (congrArg some (by kernel_rfl))
 f286 := Tryz.func135.trans (congrArg some (by kernel_rfl))
 f317 := Tryz.func162.trans (congrArg some (by kernel_rfl))
 f318 := Tryz.func163.trans (congrArg some (by kernel_rfl))
 f319 := Tryz.func164.trans (congrArg some (by kernel_rfl))
 f320 := Tryz.func165.trans (congrArg some (by kernel_rfl))
 f337 := Tryz.func180.trans (congrArg some (by kernel_rfl))
 f338 := Tryz.func181.trans (congrArg some (by kernel_rfl))
 t0 := Tryz.underlying0
 a0 := Tryz.isAgg0
 z0 := Tryz.sizeOf0
 v0 := Tryz.zeroValue0
 t2 := Tryz.underlying2
 a2 := Tryz.isAgg2
 z2 := Tryz.sizeOf2
 v2 := Tryz.zeroValue2
 t3 := Tryz.underlying3
 a3 := Tryz.isAgg3
 z3 := Tryz.sizeOf3
 v3 := Tryz.zeroValue3
 t4 := Tryz.underlying4
 a4 := Tryz.isAgg4
 z4 := Tryz.sizeOf4
 v4 := Tryz.zeroValue4
 t5 := Tryz.underlying5
 a5 := Tryz.isAgg5
 z5 := Tryz.sizeOf5
 v5 := Tryz.zeroValue5
 t9 := Tryz.underlying9
 a9 := Tryz.isAgg9
 z9 := Tryz.sizeOf9
 v9 := Tryz.zeroValue9
 t20 := Tryz.underlying20
 a20 := Tryz.isAgg20
 z20 := Tryz.sizeOf20
 v20 := Tryz.zeroValue20
 t37 := Tryz.underlying181
 a37 := Tryz.isAgg181
 z37 := Tryz.sizeOf181
 v37 := Tryz.zeroValue181
 t46 := Tryz.underlying145
 a46 := Tryz.isAgg145
 z46 := Tryz.sizeOf145
 v46 := Tryz.zeroValue145
 t51 := Tryz.underlying173
 a51 := Tryz.isAgg173
 z51 := Tryz.sizeOf173
 v51 := Tryz.zeroValue173
 t53 := Tryz.underlying175
 a53 := Tryz.isAgg175
 z53 := Tryz.sizeOf175
 v53 := Tryz.zeroValue175
 t171 := Tryz.underlying179
 a171 := Tryz.isAgg179
 z171 := Tryz.sizeOf179
 v171 := Tryz.zeroValue179
 t173 := Tryz.underlying182
 a173 := Tryz.isAgg182
 z173 := Tryz.sizeOf182
 v173 := Tryz.zeroValue182
 t212 := Tryz.underlying208
 a212 := Tryz.isAgg208
 z212 := Tryz.sizeOf208
 v212 := Tryz.zeroValue208
 t213 := Tryz.underlying209
 a213 := Tryz.isAgg209
 z213 := Tryz.sizeOf209
 t232 := Tryz.underlying227
 a232 := Tryz.isAgg227
 z232 := Tryz.sizeOf227
 v232 := Tryz.zeroValue227
 t233 := Tryz.underlying228
 a233 := Tryz.isAgg228
 z233 := Tryz.sizeOf228
 v233 := Tryz.zeroValue228
 g17 := by kernel_rfl
 g18 := by kernel_rfl
 g19 := by kernel_rfl
 i0 := by kernel_rfl
 i2 := by kernel_rfl
 i3 := by kernel_rfl
 i4 := by kernel_rfl
 i5 := by kernel_rfl
 i9 := by kernel_rfl
 i20 := by kernel_rfl
 i37 := by kernel_rfl
 i46 := by kernel_rfl
 i51 := by kernel_rfl
 i53 := by kernel_rfl
 i171 := by kernel_rfl
 i173 := by kernel_rfl
 i212 := by kernel_rfl
 i232 := by kernel_rfl
 i233 := by kernel_rfl
 m17 := by kernel_rfl
 m18 := by kernel_rfl
 m19 := by kernel_rfl }
open Go.RowKit Go.Sort Go.Lib in
theorem Tryz.strconv_Itoa (n : Int) (h0 : -9223372036854775808 ≤ n) (h1 : n ≤ 9223372036854775807) (w : World) (htab : Lib.TabIs Tryz.prog w "internal/strconv.uint64pow10" .u64 Lib.pow10Tab) :
  Calls Tryz.prog 49 #[.int .i64 n] w fun e w' => e = .returned (.string ⟨(Lib.itoa n).toArray⟩) ∧ ∃ k os, w' = grow (w.drewN k) os := Any.strconv_Itoa Tryz.laysM171 n h0 h1 w htab
end Go.Proofs
set_option maxHeartbeats 4000000
namespace Go.Proofs.Tryz
open Go.Vg
def lx : List Nat → List Nat → Prop
 | x :: u, y :: v => x < y ∨ (x = y ∧ lx u v)
 | _, _ => False
theorem lx_irrefl : ∀ u, ¬ lx u u
 | [], h => h
 | x :: u, h => by
  rcases h with h | h
  ·exact Nat.lt_irrefl _ h
  ·exact lx_irrefl u h.2
theorem lx_trans : ∀ {u v w : List Nat}, lx u v → lx v w → lx u w
 | [], _, _, h, _ => h.elim
 | _ :: _, [], _, h, _ => h.elim
 | _ :: _, _ :: _, [], _, h => h.elim
 | x :: u, y :: v, z :: w, h, k => by
  rcases h with h | ⟨rfl, h⟩
  ·rcases k with k | ⟨rfl, k⟩
   ·exact .inl (by omega)
   ·exact .inl h
  ·rcases k with k | ⟨rfl, k⟩
   ·exact .inl k
   ·exact .inr ⟨rfl, lx_trans h k⟩
theorem lx_tri : ∀ {u v : List Nat}, u.length = v.length → lx u v ∨ u = v ∨ lx v u
 | [], [], _ => .inr (.inl rfl)
 | [], _ :: _, h => by simp at h
 | _ :: _, [], h => by simp at h
 | x :: u, y :: v, h => by
  rcases Nat.lt_trichotomy x y with k | rfl | k
  ·exact .inl (.inl k)
  ·rcases lx_tri (u := u) (v := v) (by simpa using h) with q | rfl | q
   ·exact .inl (.inr ⟨rfl, q⟩)
   ·exact .inr (.inl rfl)
   ·exact .inr (.inr (.inr ⟨rfl, q⟩))
  ·exact .inr (.inr (.inl k))
theorem lx_snoc : ∀ {u v : List Nat} {s t : Nat}, u.length = v.length → (lx (u ++ [s]) (v ++ [t]) ↔ lx u v ∨ (u = v ∧ s < t))
 | [], [], s, t, _ => by simp [lx]
 | [], _ :: _, _, _, h => by simp at h
 | _ :: _, [], _, _, h => by simp at h
 | x :: u, y :: v, s, t, h => by
  have ih := lx_snoc (u := u) (v := v) (s := s) (t := t) (by simpa using h)
  simp only [List.cons_append, lx, ih, List.cons.injEq]
  constructor
  ·rintro (h | ⟨h, q | q⟩)
   ·exact .inl (.inl h)
   ·exact .inl (.inr ⟨h, q⟩)
   ·exact .inr ⟨⟨h, q.1⟩, q.2⟩
  ·rintro ((h | ⟨h, q⟩) | ⟨⟨h, q⟩, k⟩)
   ·exact .inl h
   ·exact .inr ⟨h, .inl q⟩
   ·exact .inr ⟨h, .inr ⟨q, k⟩⟩
def sl (u v : List Nat) : Prop := u.length < v.length ∨ (u.length = v.length ∧ lx u v)
theorem sl_irrefl (u : List Nat) : ¬ sl u u := by
 rintro (h | h)
 ·omega
 ·exact lx_irrefl u h.2
theorem sl_trans {u v w : List Nat} (h : sl u v) (k : sl v w) : sl u w := by
 rcases h with h | ⟨h, h'⟩ <;> rcases k with k | ⟨k, k'⟩
 ·exact .inl (by omega)
 ·exact .inl (by omega)
 ·exact .inl (by omega)
 ·exact .inr ⟨by omega, lx_trans h' k'⟩
theorem sl_tri (u v : List Nat) : sl u v ∨ u = v ∨ sl v u := by
 rcases Nat.lt_trichotomy u.length v.length with h | h | h
 ·exact .inl (.inl h)
 ·rcases lx_tri h with q | q | q
  ·exact .inl (.inr ⟨h, q⟩)
  ·exact .inr (.inl q)
  ·exact .inr (.inr (.inr ⟨h.symm, q⟩))
 ·exact .inr (.inr (.inl h))
theorem sl_snoc {u v : List Nat} {s t : Nat} : sl (u ++ [s]) (v ++ [t]) ↔ sl u v ∨ (u = v ∧ s < t) := by
 unfold sl
 simp only [List.length_append, List.length_cons, List.length_nil]
 constructor
 ·rintro (h | ⟨h, q⟩)
  ·exact .inl (.inl (by omega))
  ·rcases (lx_snoc (by omega)).1 q with k | k
   ·exact .inl (.inr ⟨by omega, k⟩)
   ·exact .inr k
 ·rintro ((h | ⟨h, q⟩) | ⟨rfl, q⟩)
  ·exact .inl (by omega)
  ·exact .inr ⟨by omega, (lx_snoc h).2 (.inl q)⟩
  ·exact .inr ⟨rfl, (lx_snoc rfl).2 (.inr ⟨rfl, q⟩)⟩
theorem snoc_cases {u : List Nat} (h : u ≠ []) : ∃ v t, u = v ++ [t] := ⟨u.dropLast, u.getLast h, (List.dropLast_concat_getLast h).symm⟩
section
variable {α : Type} [DecidableEq α] [Inhabited α] (T : Nat) (R : α → Nat → α)
def endW : α → List Nat → α
 | c, [] => c
 | c, s :: w => endW (R c s) w
theorem endW_app : ∀ (u v : List Nat) (c : α), endW R c (u ++ v) = endW R (endW R c u) v
 | [], _, _ => rfl
 | s :: u, v, c => endW_app u v (R c s)
def okS (w : List Nat) : Prop := ∀ x ∈ w, x < T
variable {T}
theorem okS_snoc {u : List Nat} {t : Nat} : okS T (u ++ [t]) ↔ okS T u ∧ t < T := by
 unfold okS
 constructor
 ·intro h; exact ⟨fun x hx => h x (by simp [hx]), h t (by simp)⟩
 ·rintro ⟨h, k⟩ x hx
  rcases List.mem_append.1 hx with hx | hx
  ·exact h x hx
  ·have : x = t := by simpa using hx
   subst this; exact k
variable (T) in
structure LW (b c : α) (w : List Nat) : Prop where
 ok : okS T w
 to : endW R b w = c
 least : ∀ v, okS T v → endW R b v = c → w = v ∨ sl w v
theorem LW.unique {b c : α} {w v : List Nat} (h : LW T R b c w) (k : LW T R b c v) : w = v := by
 rcases h.least v k.ok k.to with q | q
 ·exact q
 ·rcases k.least w h.ok h.to with r | r
  ·exact r.symm
  ·exact absurd (sl_trans q r) (sl_irrefl w)
abbrev QL (α : Type) := List (α × List Nat)
abbrev qc (Q : QL α) (j : Nat) : α := (Q.getD j (default, [])).1
abbrev qw (Q : QL α) (j : Nat) : List Nat := (Q.getD j (default, [])).2
variable (T) in
structure BI (b : α) (Q : QL α) (i s : Nat) : Prop where
 pos : 0 < Q.length
 hc : qc Q 0 = b
 hw : qw Q 0 = []
 lw : ∀ j, j < Q.length → LW T R b (qc Q j) (qw Q j)
 srt : ∀ j k, j < k → k < Q.length → sl (qw Q j) (qw Q k)
 don : ∀ j t, j < Q.length → t < T → (j < i ∨ (j = i ∧ t < s)) → ∃ k, k < Q.length ∧ qc Q k = R (qc Q j) t
 com : ∀ k, 0 < k → k < Q.length → ∃ j t, j < k ∧ t < T ∧ (j < i ∨ (j = i ∧ t < s)) ∧ qw Q k = qw Q j ++ [t]
theorem BI.start (b : α) : BI T R b [(b, [])] 0 0 := by
 refine ⟨by simp, rfl, rfl, fun j hj => ?_, fun j k h1 h2 => ?_, fun j t h1 h2 h3 => ?_, fun k h1 h2 => ?_⟩
 ·have : j = 0 := by simpa using hj
  subst this
  refine ⟨fun x hx => (by cases hx), rfl, fun v hv hv2 => ?_⟩
  cases v with
  | nil => exact .inl rfl
  | cons x v => exact .inr (.inl (by simp [qw]))
 ·simp at h2; omega
 ·omega
 ·simp at h2; omega
theorem BI.next {b : α} {i : Nat} {Q : QL α} (h : BI T R b Q i T) : BI T R b Q (i + 1) 0 :=
 ⟨h.pos, h.hc, h.hw, h.lw, h.srt, fun j t h1 h2 h3 => h.don j t h1 h2 (by omega), fun k h1 h2 => by
  obtain ⟨j, t, q1, q2, q3, q4⟩ := h.com k h1 h2
  exact ⟨j, t, q1, q2, by omega, q4⟩⟩
theorem BI.seen {b : α} {i s : Nat} {Q : QL α} (h : BI T R b Q i s) (hi : i < Q.length) : ∀ (n : Nat) (v : List Nat), v.length = n → okS T v → sl v (qw Q i ++ [s]) → ∃ k, k < Q.length ∧ qc Q k = endW R b v
 | 0, v, hn, _, _ => by
  have : v = [] := List.eq_nil_of_length_eq_zero hn
  subst this
  exact ⟨0, h.pos, h.hc⟩
 | n + 1, v, hn, hv, hs => by
  obtain ⟨u, t, rfl⟩ := snoc_cases (u := v) (by intro e; subst e; simp at hn)
  obtain ⟨hu, ht⟩ := okS_snoc.1 hv
  have hun : u.length = n := by simpa using hn
  have hl : (u ++ [t]).length ≤ (qw Q i ++ [s]).length := by rcases hs with q | q <;> omega
  obtain ⟨j, hj, hjc⟩ := BI.seen h hi n u hun hu (.inl (by simp at hl ⊢; omega))
  have hlt : (j < i ∨ (j = i ∧ t < s)) := by
   have h1 : sl (qw Q j ++ [t]) (qw Q i ++ [s]) := by
    rcases (h.lw j hj).least u hu hjc.symm with q | q
    ·rw [q]; exact hs
    ·exact sl_trans (sl_snoc.2 (.inl q)) hs
   rcases sl_snoc.1 h1 with q | ⟨q, q'⟩
   ·refine .inl ?_
    rcases Nat.lt_trichotomy j i with r | rfl | r
    ·exact r
    ·exact absurd q (sl_irrefl _)
    ·exact absurd (sl_trans q (h.srt i j r hj)) (sl_irrefl _)
   ·rcases Nat.lt_trichotomy j i with r | rfl | r
    ·exact .inl r
    ·exact .inr ⟨rfl, q'⟩
    ·exact absurd (by have := h.srt i j r hj; rw [q] at this; exact this) (sl_irrefl (qw Q i))
  obtain ⟨k, hk, hkc⟩ := h.don j t hj ht hlt
  refine ⟨k, hk, ?_⟩
  rw [hkc, hjc, endW_app]; rfl
def knB (Q : QL α) (c : α) : Bool := Q.any fun p => decide (p.1 = c)
theorem knB_iff {Q : QL α} {c : α} : knB Q c = true ↔ ∃ k, k < Q.length ∧ qc Q k = c := by
 unfold knB
 rw [List.any_eq_true]
 constructor
 ·rintro ⟨p, hp, h⟩
  obtain ⟨i, hi, rfl⟩ := List.getElem_of_mem hp
  exact ⟨i, hi, by simpa [qc, hi] using h⟩
 ·rintro ⟨k, hk, h⟩
  exact ⟨Q[k], List.getElem_mem hk, by simpa [qc, hk] using h⟩
def bstep (Q : QL α) (i s : Nat) : QL α := if knB Q (R (qc Q i) s) = true then Q else Q ++ [(R (qc Q i) s, qw Q i ++ [s])]
theorem bstep_old (Q : QL α) (i s j : Nat) (h : j < Q.length) : (bstep R Q i s).getD j (default, []) = Q.getD j (default, []) := by
 unfold bstep
 split
 ·rfl
 ·simp [List.getD_eq_getElem?_getD, List.getElem?_append_left h]
theorem bstep_len (Q : QL α) (i s : Nat) : Q.length ≤ (bstep R Q i s).length ∧ (bstep R Q i s).length ≤ Q.length + 1 := by
 unfold bstep; split <;> simp
theorem BI.step {b : α} {i s : Nat} {Q : QL α} (h : BI T R b Q i s) (hi : i < Q.length) (hs : s < T) : BI T R b (bstep R Q i s) i (s + 1) := by
 by_cases hk : knB Q (R (qc Q i) s) = true
 ·have e : bstep R Q i s = Q := if_pos hk
  rw [e]
  refine ⟨h.pos, h.hc, h.hw, h.lw, h.srt, fun j t h1 h2 h3 => ?_, fun k h1 h2 => ?_⟩
  ·by_cases h4 : j < i ∨ (j = i ∧ t < s)
   ·exact h.don j t h1 h2 h4
   ·have e1 : j = i := by omega
    have e2 : t = s := by omega
    subst e1; subst e2
    exact knB_iff.1 hk
  ·obtain ⟨j, t, q1, q2, q3, q4⟩ := h.com k h1 h2
   exact ⟨j, t, q1, q2, by omega, q4⟩
 ·have e : bstep R Q i s = Q ++ [(R (qc Q i) s, qw Q i ++ [s])] := if_neg hk
  have old : ∀ j, j < Q.length → (bstep R Q i s).getD j (default, []) = Q.getD j (default, []) := bstep_old R Q i s
  have new : (bstep R Q i s).getD Q.length (default, []) = (R (qc Q i) s, qw Q i ++ [s]) := by rw [e]; simp
  have len : (bstep R Q i s).length = Q.length + 1 := by rw [e]; simp
  have hwi : LW T R b (R (qc Q i) s) (qw Q i ++ [s]) := by
   have hl := h.lw i hi
   refine ⟨okS_snoc.2 ⟨hl.ok, hs⟩, by rw [endW_app, hl.to]; rfl, fun v hv hv2 => ?_⟩
   rcases sl_tri (qw Q i ++ [s]) v with q | q | q
   ·exact .inr q
   ·exact .inl q
   ·obtain ⟨k, hk1, hk2⟩ := h.seen R hi v.length v rfl hv q
    exact absurd (knB_iff.2 ⟨k, hk1, hk2.trans hv2⟩) hk
  refine ⟨by rw [len]; omega, by rw [qc, old 0 h.pos]; exact h.hc, by rw [qw, old 0 h.pos]; exact h.hw, fun j hj => ?_, fun j k h1 h2 => ?_, fun j t h1 h2 h3 => ?_, fun k h1 h2 => ?_⟩
  ·rw [len] at hj
   by_cases hj2 : j < Q.length
   ·rw [qc, qw, old j hj2]; exact h.lw j hj2
   ·have : j = Q.length := by omega
    subst this
    rw [qc, qw, new]; exact hwi
  ·rw [len] at h2
   by_cases hk2 : k < Q.length
   ·rw [qw, qw, old j (by omega), old k hk2]; exact h.srt j k h1 hk2
   ·have : k = Q.length := by omega
    subst this
    rw [qw, qw, old j h1, new]
    by_cases hj0 : j = 0
    ·subst hj0
     refine .inl ?_
     have := h.hw
     unfold qw at this
     rw [this]; simp
    ·obtain ⟨j', t, q1, q2, q3, q4⟩ := h.com j (by omega) h1
     show sl (qw Q j) _
     rw [q4]
     refine sl_snoc.2 ?_
     rcases q3 with q3 | ⟨rfl, q3⟩
     ·exact .inl (h.srt j' i q3 hi)
     ·exact .inr ⟨rfl, q3⟩
  ·have hj : j < Q.length := by
    rcases h3 with h3 | ⟨rfl, h3⟩
    ·omega
    ·exact hi
   rw [qc, old j hj]
   by_cases h4 : j < i ∨ (j = i ∧ t < s)
   ·obtain ⟨k, q1, q2⟩ := h.don j t hj h2 h4
    exact ⟨k, by omega, by rw [qc, old k q1]; exact q2⟩
   ·have e1 : j = i := by omega
    have e2 : t = s := by omega
    subst e1; subst e2
    exact ⟨Q.length, by omega, by rw [qc, new]⟩
  ·rw [len] at h2
   by_cases hk2 : k < Q.length
   ·obtain ⟨j, t, q1, q2, q3, q4⟩ := h.com k h1 hk2
    exact ⟨j, t, q1, q2, by omega, by rw [qw, qw, old k hk2, old j (by omega)]; exact q4⟩
   ·have : k = Q.length := by omega
    subst this
    exact ⟨i, s, hi, hs, .inr ⟨rfl, by omega⟩, by rw [qw, qw, new, old i hi]⟩
theorem BI.apart {b : α} {i s : Nat} {Q : QL α} (h : BI T R b Q i s) {j k : Nat} (hj : j < Q.length) (hk : k < Q.length) (e : qc Q j = qc Q k) : j = k := by
 have h1 := h.lw j hj
 have h2 := h.lw k hk
 rw [e] at h1
 have h3 := LW.unique R h1 h2
 rcases Nat.lt_trichotomy j k with r | r | r
 ·exact absurd (by rw [← h3]; exact sl_irrefl _) (fun h' : ¬ sl (qw Q j) (qw Q k) => h' (h.srt j k r hk))
 ·exact r
 ·exact absurd (by rw [← h3]; exact sl_irrefl _) (fun h' : ¬ sl (qw Q k) (qw Q j) => h' (h.srt k j r hj))
abbrev SL (α : Type) := List (α × Nat × Nat)
abbrev sc (S : SL α) (j : Nat) : α := (S.getD j (default, 0, 0)).1
abbrev sb (S : SL α) (j : Nat) : Nat := (S.getD j (default, 0, 0)).2.1
abbrev st' (S : SL α) (j : Nat) : Nat := (S.getD j (default, 0, 0)).2.2
def sk (S : SL α) (c : α) : Bool := S.any fun p => decide (p.1 = c)
def sstep (M : Nat) (S : SL α) (i s : Nat) : Option (SL α) := if sk S (R (sc S i) s) = true then some S else if S.length = M then none else some (S ++ [(R (sc S i) s, i, s)])
def srow (M : Nat) (S : SL α) (i : Nat) : Nat → Option (SL α)
 | 0 => some S
 | s + 1 => (srow M S i s).bind fun S' => sstep R M S' i s
variable (T) in
def srun (M : Nat) : Nat → Nat → SL α → Option (SL α)
 | 0, _, _ => none
 | f + 1, i, S => if i < S.length then (srow R M S i T).bind (srun M f (i + 1)) else some S
structure SQ (S : SL α) (Q : QL α) : Prop where
 len : S.length = Q.length
 c : ∀ j, sc S j = qc Q j
 b : ∀ k, 0 < k → k < S.length → sb S k < k ∧ qw Q k = qw Q (sb S k) ++ [st' S k]
theorem SQ.start (b : α) : SQ [(b, 0, 0)] [(b, [])] := by
 refine ⟨rfl, fun j => ?_, fun k h1 h2 => ?_⟩
 ·cases j <;> rfl
 ·simp at h2; omega
theorem SQ.kn {S : SL α} {Q : QL α} (h : SQ S Q) (c : α) : sk S c = knB Q c := by
 have e : sk S c = true ↔ ∃ k, k < S.length ∧ sc S k = c := by
  unfold sk
  rw [List.any_eq_true]
  constructor
  ·rintro ⟨p, hp, h⟩
   obtain ⟨i, hi, rfl⟩ := List.getElem_of_mem hp
   exact ⟨i, hi, by simpa [sc, hi] using h⟩
  ·rintro ⟨k, hk, h⟩
   exact ⟨S[k], List.getElem_mem hk, by simpa [sc, hk] using h⟩
 rw [Bool.eq_iff_iff, e, knB_iff]
 simp only [h.len, h.c]
theorem SQ.step {M : Nat} {S S' : SL α} {Q : QL α} {i s : Nat} (h : SQ S Q) (hi : i < S.length) (hs : sstep R M S i s = some S') : SQ S' (bstep R Q i s) := by
 unfold sstep at hs
 unfold bstep
 rw [h.kn, h.c] at hs
 by_cases hk : knB Q (R (qc Q i) s) = true
 ·rw [if_pos hk] at hs ⊢
  cases hs; exact h
 ·rw [if_neg hk] at hs ⊢
  split at hs
  ·cases hs
  ·cases hs
   have hl := h.len
   refine ⟨by simp [hl], fun j => ?_, fun k h1 h2 => ?_⟩
   ·rcases Nat.lt_trichotomy j S.length with q | q | q
    ·have := h.c j
     simp only [sc, qc, List.getD_eq_getElem?_getD] at this ⊢
     rw [List.getElem?_append_left q, List.getElem?_append_left (by omega)]
     exact this
    ·subst q
     simp only [sc, qc, List.getD_eq_getElem?_getD]
     rw [List.getElem?_append_right (Nat.le_refl _), List.getElem?_append_right (by omega), hl]
     simp
    ·simp only [sc, qc, List.getD_eq_getElem?_getD]
     rw [List.getElem?_eq_none (by simp; omega), List.getElem?_eq_none (by simp; omega)]
     rfl
   ·rcases Nat.lt_or_ge k S.length with q | q
    ·obtain ⟨b1, b2⟩ := h.b k h1 q
     have e1 : (S ++ [(R (qc Q i) s, i, s)]).getD k (default, 0, 0) = S.getD k (default, 0, 0) := by
      simp only [List.getD_eq_getElem?_getD]; rw [List.getElem?_append_left q]
     have e2 : ∀ j, j < S.length → (Q ++ [(R (qc Q i) s, qw Q i ++ [s])]).getD j (default, []) = Q.getD j (default, []) := fun j hj => by
      simp only [List.getD_eq_getElem?_getD]; rw [List.getElem?_append_left (by omega)]
     unfold sb st' qw
     rw [e1, e2 k q, e2 _ (by unfold sb at b1; omega)]
     exact ⟨b1, b2⟩
    ·have hk2 : k = S.length := by simp at h2; omega
     subst hk2
     have e1 : (S ++ [(R (qc Q i) s, i, s)]).getD S.length (default, 0, 0) = (R (qc Q i) s, i, s) := by simp
     have e2 : (Q ++ [(R (qc Q i) s, qw Q i ++ [s])]).getD S.length (default, []) = (R (qc Q i) s, qw Q i ++ [s]) := by rw [hl]; simp
     have e3 : (Q ++ [(R (qc Q i) s, qw Q i ++ [s])]).getD i (default, []) = Q.getD i (default, []) := by
      simp only [List.getD_eq_getElem?_getD]; rw [List.getElem?_append_left (by omega)]
     unfold sb st' qw
     rw [e1, e2]
     refine ⟨hi, ?_⟩
     exact congrArg (fun z : α × List Nat => z.2 ++ [s]) e3.symm
theorem srow_is {M : Nat} {b : α} {S : SL α} {Q : QL α} {i : Nat} (h : SQ S Q) (hB : BI T R b Q i 0) (hi : i < S.length) : ∀ (s : Nat) (S' : SL α), s ≤ T → srow R M S i s = some S' → ∃ Q', SQ S' Q' ∧ BI T R b Q' i s ∧ i < S'.length
 | 0, S', _, h0 => by cases h0; exact ⟨Q, h, hB, hi⟩
 | s + 1, S', hs, h1 => by
  unfold srow at h1
  obtain ⟨S1, q1, q2⟩ := Option.bind_eq_some_iff.1 h1
  obtain ⟨Q1, k1, k2, k3⟩ := srow_is h hB hi s S1 (by omega) q1
  have hl := (bstep_len R Q1 i s).1
  have h5 := k1.step R k3 q2
  exact ⟨_, h5, k2.step R (by rw [← k1.len]; exact k3) (by omega), by rw [h5.len]; have := k1.len; omega⟩
theorem srun_is {M : Nat} {b : α} : ∀ (f i : Nat) (S S' : SL α) (Q : QL α), SQ S Q → BI T R b Q i 0 → i ≤ S.length → srun T R M f i S = some S' → ∃ Q', SQ S' Q' ∧ BI T R b Q' Q'.length 0
 | 0, i, S, S', Q, _, _, _, h => by cases h
 | f + 1, i, S, S', Q, h, hB, hi, hr => by
  unfold srun at hr
  split at hr
  ·rename_i hlt
   obtain ⟨S1, q1, q2⟩ := Option.bind_eq_some_iff.1 hr
   obtain ⟨Q1, k1, k2, k3⟩ := srow_is R h hB hlt T S1 (Nat.le_refl _) q1
   exact srun_is f (i + 1) S1 S' Q1 k1 k2.next (by omega) q2
  ·cases hr
   have : i = Q.length := by have := h.len; omega
   subst this
   exact ⟨Q, h, hB⟩
theorem sstep_len {M : Nat} {S S' : SL α} {i s : Nat} (h : sstep R M S i s = some S') : S.length ≤ S'.length ∧ (S.length ≤ M → S'.length ≤ M) := by
 unfold sstep at h
 split at h
 ·cases h; exact ⟨Nat.le_refl _, id⟩
 ·split at h
  ·cases h
  ·cases h; simp; omega
theorem srow_len {M : Nat} {S : SL α} {i : Nat} : ∀ (s : Nat) {S' : SL α}, srow R M S i s = some S' → S.length ≤ S'.length ∧ (S.length ≤ M → S'.length ≤ M)
 | 0, S', h => by cases h; exact ⟨Nat.le_refl _, id⟩
 | s + 1, S', h => by
  unfold srow at h
  obtain ⟨S1, q1, q2⟩ := Option.bind_eq_some_iff.1 h
  have h1 := srow_len s q1
  have h2 := sstep_len R q2
  omega
end
section
variable (T : Nat) (R : Nat → Nat → Nat) (wl : Nat → Bool) (to : Nat)
end
end Go.Proofs.Tryz
set_option maxHeartbeats 8000000
namespace Go.Proofs.Tryz
open Go.Vg
def dgt (n : Nat) : List UInt8 := if n < 10 then [UInt8.ofNat (48 + n)] else [UInt8.ofNat (48 + n / 10), UInt8.ofNat (48 + n % 10)]
def dcL (n : Int) : List UInt8 := if n < 0 then 45 :: dgt (-n).toNat else dgt n.toNat
def dcm (n : Int) : ByteArray := ⟨(dcL n).toArray⟩
def dcR : List UInt8 → Int
 | [a] => (a.toNat : Int) - 48
 | [a, b] => if a = 45 then 48 - (b.toNat : Int) else ((a.toNat : Int) - 48) * 10 + ((b.toNat : Int) - 48)
 | [_, b, c] => -(((b.toNat : Int) - 48) * 10 + ((c.toNat : Int) - 48))
 | _ => 0
theorem dcL_chk : (List.range 80).all (fun k => decide (dcR (dcL ((k : Int) - 20)) = (k : Int) - 20) && (dcL ((k : Int) - 20)).all (fun c => !decide (c = 32))) = true := by kernel_rfl
def inR (n : Int) : Prop := -20 ≤ n ∧ n < 60
theorem dcL_is {n : Int} (h : inR n) : dcR (dcL n) = n ∧ ∀ c ∈ dcL n, c ≠ 32 := by
 unfold inR at h
 have h1 := List.all_eq_true.1 dcL_chk (n + 20).toNat (List.mem_range.2 (by omega))
 have e : (((n + 20).toNat : Nat) : Int) - 20 = n := by omega
 rw [e, Bool.and_eq_true, decide_eq_true_eq, List.all_eq_true] at h1
 exact ⟨h1.1, fun c hc => by have := h1.2 c hc; simpa using this⟩
theorem sp_split : ∀ {u v x y : List UInt8}, (∀ c ∈ u, c ≠ 32) → (∀ c ∈ v, c ≠ 32) → (x = [] ∨ ∃ r, x = 32 :: r) → (y = [] ∨ ∃ r, y = 32 :: r) → u ++ x = v ++ y → u = v ∧ x = y
 | [], [], x, y, _, _, _, _, h => ⟨rfl, h⟩
 | [], c :: v, x, y, _, hv, hx, _, h => by
  rcases hx with rfl | ⟨r, rfl⟩
  ·cases h
  ·simp only [List.nil_append, List.cons_append, List.cons.injEq] at h
   exact absurd h.1.symm (hv c (by simp))
 | c :: u, [], x, y, hu, _, _, hy, h => by
  rcases hy with rfl | ⟨r, rfl⟩
  ·cases h
  ·simp only [List.nil_append, List.cons_append, List.cons.injEq] at h
   exact absurd h.1 (hu c (by simp))
 | c :: u, d :: v, x, y, hu, hv, hx, hy, h => by
  simp only [List.cons_append, List.cons.injEq] at h
  obtain ⟨q1, q2⟩ := sp_split (fun c hc => hu c (by simp [hc])) (fun c hc => hv c (by simp [hc])) hx hy h.2
  exact ⟨by rw [h.1, q1], q2⟩
def kyT (l : List Int) : List UInt8 := l.flatMap fun n => 32 :: dcL n
def kyL (a : Int) (l : List Int) : List UInt8 := dcL a ++ kyT l
theorem kyT_head (l : List Int) : kyT l = [] ∨ ∃ r, kyT l = 32 :: r := by
 cases l with
 | nil => exact .inl rfl
 | cons a l => exact .inr ⟨dcL a ++ kyT l, by simp [kyT]⟩
theorem kyT_inj : ∀ {l m : List Int}, (∀ n ∈ l, inR n) → (∀ n ∈ m, inR n) → kyT l = kyT m → l = m
 | [], [], _, _, _ => rfl
 | [], b :: m, _, _, h => by simp [kyT] at h
 | a :: l, [], _, _, h => by simp [kyT] at h
 | a :: l, b :: m, hl, hm, h => by
  have ha := dcL_is (hl a (by simp))
  have hb := dcL_is (hm b (by simp))
  have h1 : dcL a ++ kyT l = dcL b ++ kyT m := by simpa [kyT] using h
  obtain ⟨q1, q2⟩ := sp_split ha.2 hb.2 (kyT_head l) (kyT_head m) h1
  rw [kyT_inj (fun n hn => hl n (by simp [hn])) (fun n hn => hm n (by simp [hn])) q2, ← ha.1, ← hb.1, q1]
theorem kyL_inj {a b : Int} {l m : List Int} (ha : inR a) (hb : inR b) (hl : ∀ n ∈ l, inR n) (hm : ∀ n ∈ m, inR n) (h : kyL a l = kyL b m) : a = b ∧ l = m := by
 have h1 := dcL_is ha
 have h2 := dcL_is hb
 obtain ⟨q1, q2⟩ := sp_split h1.2 h2.2 (kyT_head l) (kyT_head m) h
 exact ⟨by rw [← h1.1, ← h2.1, q1], kyT_inj hl hm q2⟩
def kyB (a : Int) (l : List Int) : ByteArray := ⟨(kyL a l).toArray⟩
def spB : ByteArray := ⟨#[32]⟩
theorem kyB_nil (a : Int) : kyB a [] = dcm a := by simp [kyB, kyL, kyT, dcm]
theorem kyB_snoc (a : Int) (l : List Int) (n : Int) : kyB a (l ++ [n]) = kyB a l ++ (spB ++ dcm n) := by
 apply ByteArray.ext
 simp [kyB, kyL, kyT, dcm, spB, ByteArray.data_append]
theorem kyB_inj {a b : Int} {l m : List Int} (ha : inR a) (hb : inR b) (hl : ∀ n ∈ l, inR n) (hm : ∀ n ∈ m, inR n) (h : kyB a l = kyB b m) : a = b ∧ l = m := by
 have h1 := congrArg (fun x : ByteArray => x.data.toList) h
 exact kyL_inj ha hb hl hm (by simpa [kyB] using h1)
section
variable {α : Type} [DecidableEq α] [Inhabited α] (K : α → ByteArray)
def mpK (S : SL α) : List (Value × AV) := (List.range S.length).map fun j => (.string (K (sc S j)), .int (j : Int))
def ixS (S : SL α) (c : α) : Nat := S.findIdx fun p => decide (p.1 = c)
theorem findL_map {β : Type} (f : β → ByteArray) (g : β → AV) (k : ByteArray) : ∀ (l : List β), findL (l.map fun j => (.string (f j), g j)) (.string k) = (l.find? fun j => decide (f j = k)).map g
 | [] => rfl
 | a :: l => by
  simp only [List.map_cons, findL, eqKey_str, List.find?_cons]
  cases h : decide (f a = k) with
  | true => rfl
  | false => exact findL_map f g k l
theorem sk_iff {S : SL α} {c : α} : sk S c = true ↔ ∃ k, k < S.length ∧ sc S k = c := by
 unfold sk
 rw [List.any_eq_true]
 constructor
 ·rintro ⟨p, hp, h⟩
  obtain ⟨i, hi, rfl⟩ := List.getElem_of_mem hp
  exact ⟨i, hi, by simpa [sc, hi] using h⟩
 ·rintro ⟨k, hk, h⟩
  exact ⟨S[k], List.getElem_mem hk, by simpa [sc, hk] using h⟩
theorem ixS_is {S : SL α} {c : α} (h : sk S c = true) : ixS S c < S.length ∧ sc S (ixS S c) = c ∧ ∀ j, j < ixS S c → sc S j ≠ c := by
 have hlt : ixS S c < S.length := by
  unfold ixS
  rw [List.findIdx_lt_length]
  obtain ⟨k, hk, hc⟩ := sk_iff.1 h
  exact ⟨S[k], List.getElem_mem hk, by simpa [sc, hk] using hc⟩
 refine ⟨hlt, ?_, fun j hj => ?_⟩
 ·have := List.findIdx_getElem (w := hlt)
  have e : S.getD (ixS S c) (default, 0, 0) = S[ixS S c] := by simp [hlt]
  unfold sc; rw [e]; exact of_decide_eq_true this
 ·have := List.not_of_lt_findIdx hj
  have hj2 : j < S.length := by omega
  simpa [sc, hj2] using this
theorem findL_mpK {S : SL α} {c : α} (hK : ∀ j, j < S.length → K (sc S j) = K c → sc S j = c) : findL (mpK K S) (.string (K c)) = if sk S c = true then some (.int (ixS S c : Int)) else none := by
 unfold mpK
 rw [findL_map (fun j => K (sc S j)) (fun j => AV.int (j : Int))]
 by_cases h : sk S c = true
 ·rw [if_pos h]
  obtain ⟨h1, h2, h3⟩ := ixS_is h
  have : (List.range S.length).find? (fun j => decide (K (sc S j) = K c)) = some (ixS S c) := by
   rw [List.find?_range_eq_some]
   refine ⟨by rw [decide_eq_true_eq, h2], List.mem_range.2 h1, fun j hj => ?_⟩
   have := h3 j hj
   simp only [Bool.not_eq_true', decide_eq_false_iff_not]
   exact fun e => this (hK j (by omega) e)
  rw [this]; rfl
 ·rw [if_neg h]
  have : (List.range S.length).find? (fun j => decide (K (sc S j) = K c)) = none := by
   rw [List.find?_eq_none]
   intro j hj e
   have hj := List.mem_range.1 hj
   exact h (sk_iff.2 ⟨j, hj, hK j hj (by simpa using e)⟩)
  rw [this]; rfl
theorem mpK_snoc (S : SL α) (p : α × Nat × Nat) : mpK K (S ++ [p]) = mpK K S ++ [(.string (K p.1), .int (S.length : Int))] := by
 unfold mpK
 rw [List.length_append, List.length_singleton, List.range_succ, List.map_append, List.map_singleton]
 congr 1
 ·refine List.map_congr_left fun j hj => ?_
  have hj := List.mem_range.1 hj
  have : (S ++ [p]).getD j (default, 0, 0) = S.getD j (default, 0, 0) := by
   simp only [List.getD_eq_getElem?_getD]; rw [List.getElem?_append_left hj]
  simp only [sc, this]
 ·simp [sc]
end
end Go.Proofs.Tryz
set_option maxHeartbeats 8000000
namespace Go.Proofs.Tryz
open Go.Vg
structure Lt where
 th : Int
 st : Int
 no : Bool
 deriving DecidableEq
structure Th where
 nm : ByteArray
 pl : Int
 ss : Int
 st : Int
 deriving DecidableEq
structure Pp where
 nm : ByteArray
 pl : Int
 wh : List Lt
 deriving DecidableEq
structure Wy where
 a : Int
 b : Int
 wh : List Lt
 deriving DecidableEq
structure Se where
 th : Int
 st : Int
 deriving DecidableEq
structure Ac where
 nm : ByteArray
 pl : Int
 lk : Int
 us : List Int
 wh : List Lt
 se : List Se
 sp : List Int
 br : List Int
 deriving DecidableEq
structure Au where
 wh : List Lt
 th : Int
 st : Int
 deriving DecidableEq
structure Rm where
 ps : List ByteArray
 ts : List Th
 pp : List Pp
 wy : List Wy
 ac : List Ac
 au : List Au
 n : Int
 goal : List Lt
 deriving DecidableEq
structure St where
 ts : List Int
 pp : List Int
 pl : List Int
 deriving DecidableEq
def ltA (x : Lt) : AV := .agg [.int x.th, .int x.st, .bool x.no]
abbrev cdA (c : List Lt) : AV := .lst 3 (c.map ltA)
def thA (x : Th) : AV := .agg [.str x.nm, .int x.pl, .int x.ss, .int x.st]
def ppA (x : Pp) : AV := .agg [.str x.nm, .int x.pl, .lst 3 (x.wh.map ltA)]
def wyA (x : Wy) : AV := .agg [.int x.a, .int x.b, .lst 3 (x.wh.map ltA)]
def seA (x : Se) : AV := .agg [.int x.th, .int x.st]
def acC (x : Ac) : List AV := [.str x.nm, .int x.pl, .int x.lk, .ints x.us, .lst 3 (x.wh.map ltA), .lst 2 (x.se.map seA), .ints x.sp, .ints x.br]
def acA (x : Ac) : AV := .agg (acC x)
def auA (x : Au) : AV := .agg [.lst 3 (x.wh.map ltA), .int x.th, .int x.st]
abbrev lt0 : Lt := ⟨0, 0, false⟩
abbrev th0 : Th := ⟨.empty, 0, 0, 0⟩
abbrev pp0 : Pp := ⟨.empty, 0, []⟩
abbrev wy0 : Wy := ⟨0, 0, []⟩
abbrev se0 : Se := ⟨0, 0⟩
abbrev ac0 : Ac := ⟨.empty, 0, 0, [], [], [], [], []⟩
abbrev au0 : Au := ⟨[], 0, 0⟩
def rmC (r : Rm) : List AV := [.strs r.ps, .lst 4 (r.ts.map thA), .lst 3 (r.pp.map ppA), .lst 3 (r.wy.map wyA), .lst 8 (r.ac.map acA), .lst 3 (r.au.map auA), .int r.n, .lst 3 (r.goal.map ltA)]
def rmA (r : Rm) : AV := .agg (rmC r)
def stA (s : St) : AV := .agg [.ints s.ts, .ints s.pp, .ints s.pl]
theorem getD_mapE {α : Type} (f : α → AV) (l : List α) (d0 : α) {i : Nat} {d : AV} (h : i < l.length) : (l.map f).getD i d = f (l.getD i d0) := by
 simp [h]
theorem getD_lt (l : List Lt) (i : Nat) : (l.map ltA).getD i (.agg [.val (.int .i64 0), .val (.int .i64 0), .val (.bool false)]) = ltA (l.getD i lt0) := getD_map' ltA l i lt0
theorem getD_th (l : List Th) (i : Nat) : (l.map thA).getD i (.agg [.val (.string .empty), .val (.int .i64 0), .val (.int .i64 0), .val (.int .i64 0)]) = thA (l.getD i th0) := getD_map' thA l i th0
theorem getD_se (l : List Se) (i : Nat) : (l.map seA).getD i (.agg [.val (.int .i64 0), .val (.int .i64 0)]) = seA (l.getD i se0) := getD_map' seA l i se0
theorem getD_pp {l : List Pp} {i : Nat} {d : AV} (h : i < l.length) : (l.map ppA).getD i d = ppA (l.getD i pp0) := getD_mapE ppA l pp0 h
theorem getD_wy {l : List Wy} {i : Nat} {d : AV} (h : i < l.length) : (l.map wyA).getD i d = wyA (l.getD i wy0) := getD_mapE wyA l wy0 h
theorem getD_ac {l : List Ac} {i : Nat} {d : AV} (h : i < l.length) : (l.map acA).getD i d = acA (l.getD i ac0) := getD_mapE acA l ac0 h
theorem getD_au {l : List Au} {i : Nat} {d : AV} (h : i < l.length) : (l.map auA).getD i d = auA (l.getD i au0) := getD_mapE auA l au0 h
theorem okL_mapR {α : Type} {f : α → AV} (k : Nat) (l : List α) (h : ∀ x, (f x).ok k) : okL k (l.map f) := okL_iff.2 fun x hx => by
 obtain ⟨y, _, rfl⟩ := List.mem_map.1 hx
 exact h y
theorem okL_lt (k : Nat) (l : List Lt) : okL k (l.map ltA) = True := eq_true (okL_mapR k l fun x => by simp [ltA, AV.ok, okL])
theorem okL_th (k : Nat) (l : List Th) : okL k (l.map thA) = True := eq_true (okL_mapR k l fun x => by simp [thA, AV.ok, okL])
theorem okL_se (k : Nat) (l : List Se) : okL k (l.map seA) = True := eq_true (okL_mapR k l fun x => by simp [seA, AV.ok, okL])
theorem okL_pp (k : Nat) (l : List Pp) : okL k (l.map ppA) = True := eq_true (okL_mapR k l fun x => by simp [ppA, AV.ok, okL, okL_lt])
theorem okL_wy (k : Nat) (l : List Wy) : okL k (l.map wyA) = True := eq_true (okL_mapR k l fun x => by simp [wyA, AV.ok, okL, okL_lt])
theorem okL_au (k : Nat) (l : List Au) : okL k (l.map auA) = True := eq_true (okL_mapR k l fun x => by simp [auA, AV.ok, okL, okL_lt])
theorem okL_mapInt (k : Nat) (l : List Int) : okL k (l.map AV.int) = True := eq_true (okL_mapR k l fun x => by simp [AV.ok])
theorem okL_ac (k : Nat) (l : List Ac) : okL k (l.map acA) = True := eq_true (okL_mapR k l fun x => by simp [acA, acC, AV.ok, okL, okL_lt, okL_mapInt, okL_se])
theorem okL_acC (k : Nat) (x : Ac) : okL k (acC x) = True := eq_true (by simp [acC, okL, AV.ok, okL_lt, okL_mapInt, okL_se])
theorem okL_rm (k : Nat) (r : Rm) : okL k (rmC r) = True := eq_true (by simp [rmC, okL, AV.ok, okL_str, okL_th, okL_pp, okL_wy, okL_ac, okL_au, okL_lt])
attribute [push_cast] ltA thA seA getD_lt getD_th getD_se okL_lt okL_th okL_se okL_pp okL_wy okL_au okL_ac okL_acC okL_rm
def wi (n lo hi : Int) : Bool := decide (lo ≤ n) && decide (n ≤ hi)
theorem wi_iff {n lo hi : Int} : wi n lo hi = true ↔ lo ≤ n ∧ n ≤ hi := by simp [wi]
end Go.Proofs.Tryz
set_option maxHeartbeats 8000000
namespace Go.Proofs.Tryz
open Go.Vg
def inS (l : List ByteArray) (v : ByteArray) : Bool := l.any fun x => decide (v = x)
def inI (l : List Int) (v : Int) : Bool := l.any fun x => decide (v = x)
def letB (t : ByteArray) : Bool := t.data.toList.all (fun b => decide (97 ≤ b.toNat) && decide (b.toNat ≤ 122)) && !inS rsvd t && !decide (t = .empty)
def nmdB (t : ByteArray) : Bool := letB t && decide (t.size ≤ 12)
def newB (l : List ByteArray) (i : Nat) : Bool := nmdB (l.getD i .empty) && !(l.take i).any (fun x => decide (x = l.getD i .empty))
def stB (ts : List Th) (th st : Int) : Bool := wi th 0 ((ts.length : Int) - 1) && wi st 0 ((ts.getD th.toNat th0).ss - 1)
def cdB (ts : List Th) (c : List Lt) : Bool := decide (c.length ≤ 8) && c.all (fun l => stB ts l.th l.st)
def ascB (n : Nat) (l : List Int) : Bool := (List.range l.length).all (fun i => decide ((if i = 0 then -1 else l.getD (i - 1) 0) < l.getD i 0) && decide (l.getD i 0 < n))
def setsB (ts : List Th) (l : List Se) : Bool := (List.range l.length).all (fun k => stB ts (l.getD k se0).th (l.getD k se0).st && !(l.take k).any (fun x => decide (x.th = (l.getD k se0).th)))
def acB (r : Rm) (i : Nat) (a : Ac) : Bool := newB (r.ac.map Ac.nm) i && wi a.pl 0 ((r.ps.length : Int) - 1) && wi a.lk (-1) 7 && ascB r.pp.length a.us && ascB r.pp.length a.sp && ascB r.pp.length a.br && decide (a.se.length ≤ 6) &&
 a.sp.all (fun p => inI a.us p) && a.br.all (fun p => !inI a.us p) && setsB r.ts a.se
def fE : Nat → Nat → (Nat → Int) → Int
 | 0, _, _ => 0
 | n + 1, k, f => if f k = 0 then fE n (k + 1) f else f k
def orE (a b : Int) : Int := if a = 0 then b else a
theorem fE_none : ∀ (n k : Nat) (f : Nat → Int), (∀ j, k ≤ j → j < k + n → f j = 0) → fE n k f = 0
 | 0, _, _, _ => rfl
 | n + 1, k, f, h => by
  rw [fE, if_pos (h k (by omega) (by omega))]
  exact fE_none n (k + 1) f fun j h1 h2 => h j (by omega) (by omega)
theorem fE_at : ∀ (n k : Nat) (f : Nat → Int) (i : Nat), k ≤ i → i < k + n → (∀ j, k ≤ j → j < i → f j = 0) → f i ≠ 0 → fE n k f = f i
 | 0, k, f, i, h1, h2, _, _ => by omega
 | n + 1, k, f, i, h1, h2, h3, h4 => by
  by_cases e : k = i
  ·subst e; rw [fE, if_neg h4]
  ·rw [fE, if_pos (h3 k (by omega) (by omega))]
   exact fE_at n (k + 1) f i (by omega) (by omega) (fun j q1 q2 => h3 j (by omega) q2) h4
theorem orE_no {a b : Int} (h : a ≠ 0) : orE a b = a := if_neg h
theorem orE_ok {a b : Int} (h : a = 0) : orE a b = b := if_pos h
theorem fE_zero : ∀ (n k : Nat) (f : Nat → Int), fE n k f = 0 → ∀ j, k ≤ j → j < k + n → f j = 0
 | 0, k, f, _, j, h1, h2 => by omega
 | n + 1, k, f, h, j, h1, h2 => by
  rw [fE] at h
  split at h
  ·rename_i hz
   by_cases e : j = k
   ·subst e; exact hz
   ·exact fE_zero n (k + 1) f h j (by omega) (by omega)
  ·rename_i hz; exact absurd h hz
def pmF (r : Rm) (i : Nat) : Int := if newB r.ps i then 0 else 22
def tmB (r : Rm) (i : Nat) (t : Th) : Bool := newB (r.ts.map Th.nm) i && wi t.pl 0 ((r.ps.length : Int) - 1) && wi t.ss 2 6 && wi t.st 0 (t.ss - 1)
def tmF (r : Rm) (i : Nat) : Int := if tmB r i (r.ts.getD i th0) then 0 else 21
def ppB (r : Rm) (i : Nat) (p : Pp) : Bool := newB (r.pp.map Pp.nm) i && (wi p.pl 0 ((r.ps.length : Int) - 1) || decide (p.pl = -1))
def ppF (r : Rm) (i : Nat) : Int := if ppB r i (r.pp.getD i pp0) then if cdB r.ts (r.pp.getD i pp0).wh then 0 else 25 else 24
def wyB (r : Rm) (w : Wy) : Bool := wi w.a 0 ((r.ps.length : Int) - 1) && wi w.b 0 ((r.ps.length : Int) - 1) && !decide (w.a = w.b)
def wyF (r : Rm) (i : Nat) : Int := if wyB r (r.wy.getD i wy0) then if cdB r.ts (r.wy.getD i wy0).wh then 0 else 25 else 23
def acF (r : Rm) (i : Nat) : Int := if acB r i (r.ac.getD i ac0) then if cdB r.ts (r.ac.getD i ac0).wh then 0 else 25 else 26
def auF (r : Rm) (i : Nat) : Int := if stB r.ts (r.au.getD i au0).th (r.au.getD i au0).st then if cdB r.ts (r.au.getD i au0).wh then 0 else 25 else 27
def pmE (r : Rm) : Int := fE r.ps.length 0 (pmF r)
def tmE (r : Rm) : Int := fE r.ts.length 0 (tmF r)
def ppE (r : Rm) : Int := fE r.pp.length 0 (ppF r)
def wyE (r : Rm) : Int := fE r.wy.length 0 (wyF r)
def acE (r : Rm) : Int := fE r.ac.length 0 (acF r)
def auE (r : Rm) : Int := fE r.au.length 0 (auF r)
def bigB (r : Rm) : Bool := decide ((8 : Int) < r.ps.length) || decide ((12 : Int) < r.ts.length) || decide ((10 : Int) < r.pp.length) || decide ((16 : Int) < r.wy.length) || decide ((24 : Int) < r.ac.length) || decide ((12 : Int) < r.au.length)
def chE (r : Rm) : Int := if bigB r then 2 else orE (pmE r) (orE (if r.ps = [] then 22 else 0) (orE (tmE r) (orE (ppE r) (orE (wyE r) (orE (acE r) (orE (auE r) (orE (if wi r.n 1 4 then 0 else 1) (if cdB r.ts r.goal then 0 else 25))))))))
def csB (r : Rm) (s : St) : Bool := (decide (s.ts.length = r.ts.length) && decide (s.pp.length = r.pp.length) && decide ((s.pl.length : Int) = r.n)) && (List.range s.ts.length).all (fun i => stB r.ts i (s.ts.getD i 0)) && s.pp.all (fun p => wi p (-2 - r.n + 1) ((r.ps.length : Int) - 1)) && s.pl.all (fun p => wi p 0 ((r.ps.length : Int) - 1))
def csE (r : Rm) (s : St) : Int := orE (chE r) (if csB r s then 0 else 28)
def hdB (ts : List Int) (c : List Lt) : Bool := c.all fun l => !(decide (ts.getD l.th.toNat 0 = l.st) == l.no)
def enB (ts : List Int) (a : Au) : Bool := hdB ts a.wh && !decide (ts.getD a.th.toNat 0 = a.st)
def stl (au : List Au) : Nat → List Int → Option (List Int)
 | 0, _ => none
 | n + 1, ts => match au.find? (enB ts) with
  | none => some ts
  | some a => stl au n (ts.set a.th.toNat a.st)
def bg0 (r : Rm) : St := ⟨r.ts.map Th.st, r.pp.map Pp.pl, List.replicate r.n.toNat 0⟩
def bgE (r : Rm) : Int := orE (chE r) (if (stl r.au 101 (r.ts.map Th.st)).isSome then 0 else 27)
def bgS (r : Rm) : St := { bg0 r with ts := (stl r.au 101 (r.ts.map Th.st)).getD [] }
end Go.Proofs.Tryz
