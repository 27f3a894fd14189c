/-
What simp knows of values.
-/
import Derived.Test.YtpjkepfplhllfaaDoorAv19
namespace Go.Proofs.YtpjkepfplhllfaaDoor.Av
set_option linter.unusedSimpArgs false
set_option linter.unusedVariables false
open Go
def ers1 : AV → AV
  | .agg ds => .agg (ds.map er)
  | a => er a
def es1 : AV → AV
  | .agg ds => .agg (ds.map ec)
  | a => ec a
@[simp] theorem sers_tup (cs : List AV) : ers (.tup cs) = .tup (cs.map ers1) := by
  simp only [ers]
  congr 2
@[simp] theorem ses_tup (cs : List AV) : es (.tup cs) = .tup (cs.map es1) := by
  simp only [es]
  congr 2
@[simp] theorem ser_any : er AV.any = .any := rfl
@[simp] theorem sec_any : ec AV.any = .any := rfl
@[simp] theorem sers_any : ers AV.any = .any := rfl
@[simp] theorem ses_any : es AV.any = .any := rfl
@[simp] theorem sone_any : AV.one AV.any = false := rfl
@[simp] theorem scells_any : AV.cells AV.any = [.any] := rfl
@[simp] theorem splainC_any : plainC AV.any = .any := rfl
@[simp] theorem sisAny_any : isAny AV.any = true := rfl
@[simp] theorem sers1_any : ers1 AV.any = .any := rfl
@[simp] theorem ses1_any : es1 AV.any = .any := rfl
@[simp] theorem ser_bool (b : Bool) : er (AV.bool b) = .bool b := rfl
@[simp] theorem sec_bool (b : Bool) : ec (AV.bool b) = .bool b := rfl
@[simp] theorem sers_bool (b : Bool) : ers (AV.bool b) = .bool b := rfl
@[simp] theorem ses_bool (b : Bool) : es (AV.bool b) = .bool b := rfl
@[simp] theorem sone_bool (b : Bool) : AV.one (AV.bool b) = true := rfl
@[simp] theorem scells_bool (b : Bool) : AV.cells (AV.bool b) = [.bool b] := rfl
@[simp] theorem splainC_bool (b : Bool) : plainC (AV.bool b) = .bool b := rfl
@[simp] theorem sisAny_bool (b : Bool) : isAny (AV.bool b) = false := rfl
@[simp] theorem sers1_bool (b : Bool) : ers1 (AV.bool b) = .bool b := rfl
@[simp] theorem ses1_bool (b : Bool) : es1 (AV.bool b) = .bool b := rfl
@[simp] theorem ser_int (k : IntKind) (n : Int) : er (AV.int k n) = .int k n := rfl
@[simp] theorem sec_int (k : IntKind) (n : Int) : ec (AV.int k n) = .int k n := rfl
@[simp] theorem sers_int (k : IntKind) (n : Int) : ers (AV.int k n) = .int k n := rfl
@[simp] theorem ses_int (k : IntKind) (n : Int) : es (AV.int k n) = .int k n := rfl
@[simp] theorem sone_int (k : IntKind) (n : Int) : AV.one (AV.int k n) = true := rfl
@[simp] theorem scells_int (k : IntKind) (n : Int) : AV.cells (AV.int k n) = [.int k n] := rfl
@[simp] theorem splainC_int (k : IntKind) (n : Int) : plainC (AV.int k n) = .int k n := rfl
@[simp] theorem sisAny_int (k : IntKind) (n : Int) : isAny (AV.int k n) = false := rfl
@[simp] theorem sers1_int (k : IntKind) (n : Int) : ers1 (AV.int k n) = .int k n := rfl
@[simp] theorem ses1_int (k : IntKind) (n : Int) : es1 (AV.int k n) = .int k n := rfl
@[simp] theorem ser_str (s : List UInt8) : er (AV.str s) = .str s := rfl
@[simp] theorem sec_str (s : List UInt8) : ec (AV.str s) = .str s := rfl
@[simp] theorem sers_str (s : List UInt8) : ers (AV.str s) = .str s := rfl
@[simp] theorem ses_str (s : List UInt8) : es (AV.str s) = .str s := rfl
@[simp] theorem sone_str (s : List UInt8) : AV.one (AV.str s) = true := rfl
@[simp] theorem scells_str (s : List UInt8) : AV.cells (AV.str s) = [.str s] := rfl
@[simp] theorem splainC_str (s : List UInt8) : plainC (AV.str s) = .str s := rfl
@[simp] theorem sisAny_str (s : List UInt8) : isAny (AV.str s) = false := rfl
@[simp] theorem sers1_str (s : List UInt8) : ers1 (AV.str s) = .str s := rfl
@[simp] theorem ses1_str (s : List UInt8) : es1 (AV.str s) = .str s := rfl
@[simp] theorem ser_ptr (b o : Nat) : er (AV.ptr b o) = .ptr b o := rfl
@[simp] theorem sec_ptr (b o : Nat) : ec (AV.ptr b o) = .ptr b o := rfl
@[simp] theorem sers_ptr (b o : Nat) : ers (AV.ptr b o) = .ptr b o := rfl
@[simp] theorem ses_ptr (b o : Nat) : es (AV.ptr b o) = .ptr b o := rfl
@[simp] theorem sone_ptr (b o : Nat) : AV.one (AV.ptr b o) = true := rfl
@[simp] theorem scells_ptr (b o : Nat) : AV.cells (AV.ptr b o) = [.ptr b o] := rfl
@[simp] theorem splainC_ptr (b o : Nat) : plainC (AV.ptr b o) = .ptr b o := rfl
@[simp] theorem sisAny_ptr (b o : Nat) : isAny (AV.ptr b o) = false := rfl
@[simp] theorem sers1_ptr (b o : Nat) : ers1 (AV.ptr b o) = .ptr b o := rfl
@[simp] theorem ses1_ptr (b o : Nat) : es1 (AV.ptr b o) = .ptr b o := rfl
@[simp] theorem ser_nilp : er AV.nilp = .nilp := rfl
@[simp] theorem sec_nilp : ec AV.nilp = .nilp := rfl
@[simp] theorem sers_nilp : ers AV.nilp = .nilp := rfl
@[simp] theorem ses_nilp : es AV.nilp = .nilp := rfl
@[simp] theorem sone_nilp : AV.one AV.nilp = true := rfl
@[simp] theorem scells_nilp : AV.cells AV.nilp = [.nilp] := rfl
@[simp] theorem splainC_nilp : plainC AV.nilp = .nilp := rfl
@[simp] theorem sisAny_nilp : isAny AV.nilp = false := rfl
@[simp] theorem sers1_nilp : ers1 AV.nilp = .nilp := rfl
@[simp] theorem ses1_nilp : es1 AV.nilp = .nilp := rfl
@[simp] theorem ser_cptr (cs : List AV) : er (AV.cptr cs) = .cptr cs := rfl
@[simp] theorem sec_cptr (cs : List AV) : ec (AV.cptr cs) = .cptr cs := rfl
@[simp] theorem sers_cptr (cs : List AV) : ers (AV.cptr cs) = .cptr cs := rfl
@[simp] theorem ses_cptr (cs : List AV) : es (AV.cptr cs) = .cptr cs := rfl
@[simp] theorem sone_cptr (cs : List AV) : AV.one (AV.cptr cs) = true := rfl
@[simp] theorem scells_cptr (cs : List AV) : AV.cells (AV.cptr cs) = [.cptr cs] := rfl
@[simp] theorem splainC_cptr (cs : List AV) : plainC (AV.cptr cs) = .cptr cs := rfl
@[simp] theorem sisAny_cptr (cs : List AV) : isAny (AV.cptr cs) = false := rfl
@[simp] theorem sers1_cptr (cs : List AV) : ers1 (AV.cptr cs) = .cptr cs := rfl
@[simp] theorem ses1_cptr (cs : List AV) : es1 (AV.cptr cs) = .cptr cs := rfl
@[simp] theorem ser_list (t : Tag) (xs : List (List AV)) : er (AV.list t xs) = .list .none xs := rfl
@[simp] theorem sec_list (t : Tag) (xs : List (List AV)) : ec (AV.list t xs) = .list .none xs := rfl
@[simp] theorem sers_list (t : Tag) (xs : List (List AV)) : ers (AV.list t xs) = .list .none xs := rfl
@[simp] theorem ses_list (t : Tag) (xs : List (List AV)) : es (AV.list t xs) = .list .none xs := rfl
@[simp] theorem sone_list (t : Tag) (xs : List (List AV)) : AV.one (AV.list t xs) = true := rfl
@[simp] theorem scells_list (t : Tag) (xs : List (List AV)) : AV.cells (AV.list t xs) = [.list t xs] := rfl
@[simp] theorem splainC_list (t : Tag) (xs : List (List AV)) : plainC (AV.list t xs) = .list .none xs := rfl
@[simp] theorem sisAny_list (t : Tag) (xs : List (List AV)) : isAny (AV.list t xs) = false := rfl
@[simp] theorem sers1_list (t : Tag) (xs : List (List AV)) : ers1 (AV.list t xs) = .list .none xs := rfl
@[simp] theorem ses1_list (t : Tag) (xs : List (List AV)) : es1 (AV.list t xs) = .list .none xs := rfl
@[simp] theorem ser_grow (sz : Nat) (xs : List (List AV)) : er (AV.grow sz xs) = .list .none xs := rfl
@[simp] theorem sec_grow (sz : Nat) (xs : List (List AV)) : ec (AV.grow sz xs) = .list .none xs := rfl
@[simp] theorem sers_grow (sz : Nat) (xs : List (List AV)) : ers (AV.grow sz xs) = .list .none xs := rfl
@[simp] theorem ses_grow (sz : Nat) (xs : List (List AV)) : es (AV.grow sz xs) = .list .none xs := rfl
@[simp] theorem sone_grow (sz : Nat) (xs : List (List AV)) : AV.one (AV.grow sz xs) = true := rfl
@[simp] theorem scells_grow (sz : Nat) (xs : List (List AV)) : AV.cells (AV.grow sz xs) = [.grow sz xs] := rfl
@[simp] theorem splainC_grow (sz : Nat) (xs : List (List AV)) : plainC (AV.grow sz xs) = .list .none xs := rfl
@[simp] theorem sisAny_grow (sz : Nat) (xs : List (List AV)) : isAny (AV.grow sz xs) = false := rfl
@[simp] theorem sers1_grow (sz : Nat) (xs : List (List AV)) : ers1 (AV.grow sz xs) = .list .none xs := rfl
@[simp] theorem ses1_grow (sz : Nat) (xs : List (List AV)) : es1 (AV.grow sz xs) = .list .none xs := rfl
@[simp] theorem ser_nils : er AV.nils = .list .none [] := rfl
@[simp] theorem sec_nils : ec AV.nils = .nils := rfl
@[simp] theorem sers_nils : ers AV.nils = .list .none [] := rfl
@[simp] theorem ses_nils : es AV.nils = .nils := rfl
@[simp] theorem sone_nils : AV.one AV.nils = true := rfl
@[simp] theorem scells_nils : AV.cells AV.nils = [.nils] := rfl
@[simp] theorem splainC_nils : plainC AV.nils = .nils := rfl
@[simp] theorem sisAny_nils : isAny AV.nils = false := rfl
@[simp] theorem sers1_nils : ers1 AV.nils = .list .none [] := rfl
@[simp] theorem ses1_nils : es1 AV.nils = .nils := rfl
@[simp] theorem ser_map (b : Nat) : er (AV.map b) = .map b := rfl
@[simp] theorem sec_map (b : Nat) : ec (AV.map b) = .map b := rfl
@[simp] theorem sers_map (b : Nat) : ers (AV.map b) = .map b := rfl
@[simp] theorem ses_map (b : Nat) : es (AV.map b) = .map b := rfl
@[simp] theorem sone_map (b : Nat) : AV.one (AV.map b) = true := rfl
@[simp] theorem scells_map (b : Nat) : AV.cells (AV.map b) = [.map b] := rfl
@[simp] theorem splainC_map (b : Nat) : plainC (AV.map b) = .map b := rfl
@[simp] theorem sisAny_map (b : Nat) : isAny (AV.map b) = false := rfl
@[simp] theorem sers1_map (b : Nat) : ers1 (AV.map b) = .map b := rfl
@[simp] theorem ses1_map (b : Nat) : es1 (AV.map b) = .map b := rfl
@[simp] theorem ser_nilm : er AV.nilm = .nilm := rfl
@[simp] theorem sec_nilm : ec AV.nilm = .nilm := rfl
@[simp] theorem sers_nilm : ers AV.nilm = .nilm := rfl
@[simp] theorem ses_nilm : es AV.nilm = .nilm := rfl
@[simp] theorem sone_nilm : AV.one AV.nilm = true := rfl
@[simp] theorem scells_nilm : AV.cells AV.nilm = [.nilm] := rfl
@[simp] theorem splainC_nilm : plainC AV.nilm = .nilm := rfl
@[simp] theorem sisAny_nilm : isAny AV.nilm = false := rfl
@[simp] theorem sers1_nilm : ers1 AV.nilm = .nilm := rfl
@[simp] theorem ses1_nilm : es1 AV.nilm = .nilm := rfl
@[simp] theorem ser_func (f : Nat) (cs : List AV) : er (AV.func f cs) = .func f cs := rfl
@[simp] theorem sec_func (f : Nat) (cs : List AV) : ec (AV.func f cs) = .func f cs := rfl
@[simp] theorem sers_func (f : Nat) (cs : List AV) : ers (AV.func f cs) = .func f (cs.map er) := rfl
@[simp] theorem ses_func (f : Nat) (cs : List AV) : es (AV.func f cs) = .func f (cs.map ec) := rfl
@[simp] theorem sone_func (f : Nat) (cs : List AV) : AV.one (AV.func f cs) = true := rfl
@[simp] theorem scells_func (f : Nat) (cs : List AV) : AV.cells (AV.func f cs) = [.func f cs] := rfl
@[simp] theorem splainC_func (f : Nat) (cs : List AV) : plainC (AV.func f cs) = .func f cs := rfl
@[simp] theorem sisAny_func (f : Nat) (cs : List AV) : isAny (AV.func f cs) = false := rfl
@[simp] theorem sers1_func (f : Nat) (cs : List AV) : ers1 (AV.func f cs) = .func f cs := rfl
@[simp] theorem ses1_func (f : Nat) (cs : List AV) : es1 (AV.func f cs) = .func f cs := rfl
@[simp] theorem ser_nilf : er AV.nilf = .nilf := rfl
@[simp] theorem sec_nilf : ec AV.nilf = .nilf := rfl
@[simp] theorem sers_nilf : ers AV.nilf = .nilf := rfl
@[simp] theorem ses_nilf : es AV.nilf = .nilf := rfl
@[simp] theorem sone_nilf : AV.one AV.nilf = true := rfl
@[simp] theorem scells_nilf : AV.cells AV.nilf = [.nilf] := rfl
@[simp] theorem splainC_nilf : plainC AV.nilf = .nilf := rfl
@[simp] theorem sisAny_nilf : isAny AV.nilf = false := rfl
@[simp] theorem sers1_nilf : ers1 AV.nilf = .nilf := rfl
@[simp] theorem ses1_nilf : es1 AV.nilf = .nilf := rfl
@[simp] theorem ser_agg (cs : List AV) : er (AV.agg cs) = .agg cs := rfl
@[simp] theorem sec_agg (cs : List AV) : ec (AV.agg cs) = .agg cs := rfl
@[simp] theorem sers_agg (cs : List AV) : ers (AV.agg cs) = .agg (cs.map er) := rfl
@[simp] theorem ses_agg (cs : List AV) : es (AV.agg cs) = .agg (cs.map ec) := rfl
@[simp] theorem sone_agg (cs : List AV) : AV.one (AV.agg cs) = false := rfl
@[simp] theorem scells_agg (cs : List AV) : AV.cells (AV.agg cs) = cs := rfl
@[simp] theorem splainC_agg (cs : List AV) : plainC (AV.agg cs) = .agg cs := rfl
@[simp] theorem sisAny_agg (cs : List AV) : isAny (AV.agg cs) = false := rfl
@[simp] theorem sers1_agg (cs : List AV) : ers1 (AV.agg cs) = .agg (cs.map er) := rfl
@[simp] theorem ses1_agg (cs : List AV) : es1 (AV.agg cs) = .agg (cs.map ec) := rfl
@[simp] theorem ser_tup (cs : List AV) : er (AV.tup cs) = .tup cs := rfl
@[simp] theorem sec_tup (cs : List AV) : ec (AV.tup cs) = .tup cs := rfl
@[simp] theorem sone_tup (cs : List AV) : AV.one (AV.tup cs) = false := rfl
@[simp] theorem scells_tup (cs : List AV) : AV.cells (AV.tup cs) = [.tup cs] := rfl
@[simp] theorem splainC_tup (cs : List AV) : plainC (AV.tup cs) = .tup cs := rfl
@[simp] theorem sisAny_tup (cs : List AV) : isAny (AV.tup cs) = false := rfl
@[simp] theorem sers1_tup (cs : List AV) : ers1 (AV.tup cs) = .tup cs := rfl
@[simp] theorem ses1_tup (cs : List AV) : es1 (AV.tup cs) = .tup cs := rfl
@[simp] theorem ser_val (v : Value) : er (AV.val v) = .val v := rfl
@[simp] theorem sec_val (v : Value) : ec (AV.val v) = .val v := rfl
@[simp] theorem sers_val (v : Value) : ers (AV.val v) = .val v := rfl
@[simp] theorem ses_val (v : Value) : es (AV.val v) = .val v := rfl
@[simp] theorem sone_val (v : Value) : AV.one (AV.val v) = v.oneCell' := rfl
@[simp] theorem scells_val (v : Value) : AV.cells (AV.val v) = [.val v] := rfl
@[simp] theorem splainC_val (v : Value) : plainC (AV.val v) = .val v := rfl
@[simp] theorem sisAny_val (v : Value) : isAny (AV.val v) = false := rfl
@[simp] theorem sers1_val (v : Value) : ers1 (AV.val v) = .val v := rfl
@[simp] theorem ses1_val (v : Value) : es1 (AV.val v) = .val v := rfl
@[simp] theorem ser_full (xs : List (List AV)) : er (AV.full xs) = .full xs := rfl
@[simp] theorem sec_full (xs : List (List AV)) : ec (AV.full xs) = .full xs := rfl
@[simp] theorem sers_full (xs : List (List AV)) : ers (AV.full xs) = .full xs := rfl
@[simp] theorem ses_full (xs : List (List AV)) : es (AV.full xs) = .full xs := rfl
@[simp] theorem sone_full (xs : List (List AV)) : AV.one (AV.full xs) = true := rfl
@[simp] theorem scells_full (xs : List (List AV)) : AV.cells (AV.full xs) = [.full xs] := rfl
@[simp] theorem splainC_full (xs : List (List AV)) : plainC (AV.full xs) = .full xs := rfl
@[simp] theorem sisAny_full (xs : List (List AV)) : isAny (AV.full xs) = false := rfl
@[simp] theorem sers1_full (xs : List (List AV)) : ers1 (AV.full xs) = .full xs := rfl
@[simp] theorem ses1_full (xs : List (List AV)) : es1 (AV.full xs) = .full xs := rfl
section
variable {P : Program} {E : Env} {f : Fm} {σ : St}
/-- A region that draws its order, with code behind it. -/
theorem Run.drawReg (hE : EnvOK P E) (hm : P.follows .mixedOrders = true) {id : Nat} {ops : Array Oper} {c : Code} {Q : Post} (n : Nat) (ord : List Nat) (hd : dstsOK f.nt ops.toList = true) (hc : drawOK ops n ord = true)
    (h : ∀ K : Fm → St → Prop, (∀ f σ, Run P E c f σ Q → K f σ) → WP P E ops σ (fun f => W P E ops (ops.toList.drop n) f σ K) ord f) : Run P E (.seq (.region id ops true) c) f σ Q :=
  Run.seq (Run.draw hE hm n ord hd hc fun K hK => h K hK)
end
section
variable {P : Program} {E : Env}
/-- A function's body shows what its call does; the frame's size and the results are spelt out. -/
theorem PCall.of_fun (hE : EnvOK P E) {fn : FuncId} {F : Func} {c : Code} {args : List AV} {R : AV → Prop} (nt : Nat) (res : List ResultVar) (hF : P.funcs[fn]? = some F) (hname : (F.name == "runtime.NumGoroutine") = false) (hb : F.body = some c) (hnt : F.ntmps = nt) (hres : F.results.toList = res) (hn : args.length ≤ nt) (hargs : ∀ x ∈ args, ers x = x)
    (h : Run P E c ⟨nt, slotsA 0 args, [], []⟩ .empty fun e f' σ' => (e = .normal ∨ e = .ret) ∧ marked f'.df σ'.map ∧ ∃ xs, resAs E f' σ' res = some xs ∧ R (ers (tupA xs))) (hrd : E.rd = none := by rfl) : PCall P E fn args R := by
  subst hnt hres
  exact PCall.of_run hE hF hname hb hn hargs h hrd
theorem PCall.useP {fn : FuncId} {args : List AV} {R K : AV → Prop} (h : PCall P E fn args R) (hr : ∀ r, R r → K (es r)) : CallPure P E fn args K :=
  ACall.mono h fun r σ hh => ⟨hh.1, hr r hh.2⟩
/-- The same, where what is nil stays nil. -/
theorem PCall.of_fun' (hE : EnvOK P E) {fn : FuncId} {F : Func} {c : Code} {args : List AV} {R : AV → Prop} (nt : Nat) (res : List ResultVar) (hF : P.funcs[fn]? = some F) (hname : (F.name == "runtime.NumGoroutine") = false) (hb : F.body = some c) (hnt : F.ntmps = nt) (hres : F.results.toList = res) (hn : args.length ≤ nt) (hargs : ∀ x ∈ args, ers x = x)
    (h : Run P E c ⟨nt, slotsA 0 args, [], []⟩ .empty fun e f' σ' => (e = .normal ∨ e = .ret) ∧ marked f'.df σ'.map ∧ ∃ xs, resAs E f' σ' res = some xs ∧ R (es (tupA xs))) (hrd : E.rd = none := by rfl) : PCall P E fn args R := by
  subst hnt hres
  exact ACall.of_run hE hF hname hb hn hargs (hrd := hrd) (Run.mono h fun e f' σ' ⟨h1, hm, xs, h2, h3⟩ => ⟨h1, hm, xs, _, .empty, h2, .inr rfl, List.nil_sublist _, List.nil_sublist _, rfl, h3⟩)
end
section
variable {P : Program} {E : Env} {f : Fm} {σ : St} {ops : Array Oper} {rest : List Oper} {d : Nat} {op : Op} {ty : TypeId} {pos : String} {after : Array Edge} {j dj : Nat} {want b : Bool} {K : Fm → St → Prop} {nt : Nat} {sl : List (Nat × AV)} {ow : List (Tag × (Nat × Nat))} {df : List Nat} {x z : AV}
/-! One operation after the other: q: nothing but a value; g: under a condition; p: a pick. -/
theorem Wd (k : K f σ) : W P E ops [] f σ K := k
theorem Wq (h : evF E ⟨nt, sl, ow, df⟩ σ op = some x) (k : W P E ops rest ⟨nt, (d, x) :: sl, ow, df⟩ σ K) : W P E ops (⟨some d, op, ty, pos, after, none⟩ :: rest) ⟨nt, sl, ow, df⟩ σ K :=
  .inr ⟨x, ⟨x, h, .inl rfl⟩, k⟩
theorem evP_of' {o : Oper} {op : Op} (ho : o.op = op) (h : evF E f σ op = some x) : evP E f σ o = some x := by
  subst ho; unfold evP; rw [h]
theorem Wg (hj : (ops[j]?).bind (·.dst) = some dj) (hb : guardB want (getA sl dj) = some b) (h : b = true → evF E ⟨nt, sl, ow, df⟩ σ op = some x) (k : W P E ops rest ⟨nt, (d, .when b (es x)) :: sl, ow, df⟩ σ K) :
    W P E ops (⟨some d, op, ty, pos, after, some (j, want)⟩ :: rest) ⟨nt, sl, ow, df⟩ σ K := by
  simp only [W, hj, hb]
  exact .inr (.inl ⟨x, fun e => ⟨x, evP_of' rfl (h e), .inl rfl⟩, k⟩)
theorem Wgb (hj : (ops[j]?).bind (·.dst) = some dj) (hb : guardB want (getA sl dj) = some b) (h : b = true → evP E ⟨nt, sl, ow, df⟩ σ ⟨some d, op, ty, pos, after, some (j, want)⟩ = some x) (k : W P E ops rest ⟨nt, (d, .when b (es x)) :: sl, ow, df⟩ σ K) :
    W P E ops (⟨some d, op, ty, pos, after, some (j, want)⟩ :: rest) ⟨nt, sl, ow, df⟩ σ K := by
  simp only [W, hj, hb]
  exact .inr (.inl ⟨x, fun e => ⟨x, h e, .inl rfl⟩, k⟩)
/-- What a pick may choose. -/
def gOK : AV → Prop | .bool _ => True | .when g (.bool _) => g = true | _ => False
def pv : AV → Bool | .bool p => p | .when _ (.bool p) => p | _ => false
theorem gOK_rep {w : World} {φ : Nat → Nat} {v : Value} (h : gOK x) (hr : Rep w φ x v) : v = .bool (pv x) := by
  cases x <;> simp only [gOK] at h
  · simpa only [Rep, pv] using hr
  · rename_i g y
    cases y <;> simp only [gOK] at h
    simp only [Rep] at hr
    simpa only [Rep, pv] using hr.1 h
theorem pick_weak {t β : Bool} {X Y : AV} (h1 : t = true → gOK X) (h2 : t = false → gOK Y) (hβ : (if t then pv X else pv Y) = β) : Weak (if t then X else Y) (.bool β) := by
  refine .inr ⟨.inl ⟨β, rfl⟩, fun w φ v hr => ?_⟩
  subst hβ
  simp only [Rep]
  cases t with
  | true => exact gOK_rep (h1 rfl) hr
  | false => exact gOK_rep (h2 rfl) hr
theorem evF_pick {c p q : Operand} {t : Bool} {X Y : AV} (hc : evX E f c = .bool t) (hx : evX E f p = X) (hy : evX E f q = Y) : evF E f σ (.pick c p q) = some (if t then X else Y) := by
  simp only [evF, hc, hx, hy]
theorem Wp {c p q : Operand} {t β : Bool} {X Y : AV} (hc : evX E ⟨nt, sl, ow, df⟩ c = .bool t) (hx : evX E ⟨nt, sl, ow, df⟩ p = X) (hy : evX E ⟨nt, sl, ow, df⟩ q = Y) (h1 : t = true → gOK X) (h2 : t = false → gOK Y) (hβ : (if t then pv X else pv Y) = β)
    (k : W P E ops rest ⟨nt, (d, .bool β) :: sl, ow, df⟩ σ K) : W P E ops (⟨some d, .pick c p q, ty, pos, after, none⟩ :: rest) ⟨nt, sl, ow, df⟩ σ K :=
  .inr ⟨.bool β, ⟨_, evF_pick hc hx hy, pick_weak h1 h2 hβ⟩, k⟩
theorem Wgp {c p q : Operand} {t β : Bool} {X Y : AV} (hj : (ops[j]?).bind (·.dst) = some dj) (hb : guardB want (getA sl dj) = some b) (hc : b = true → evX E ⟨nt, sl, ow, df⟩ c = .bool t) (hx : evX E ⟨nt, sl, ow, df⟩ p = X) (hy : evX E ⟨nt, sl, ow, df⟩ q = Y) (h1 : b = true → t = true → gOK X) (h2 : b = true → t = false → gOK Y) (hβ : (if t then pv X else pv Y) = β)
    (k : W P E ops rest ⟨nt, (d, .when b (.bool β)) :: sl, ow, df⟩ σ K) : W P E ops (⟨some d, .pick c p q, ty, pos, after, some (j, want)⟩ :: rest) ⟨nt, sl, ow, df⟩ σ K := by
  simp only [W, hj, hb]
  exact .inr (.inl ⟨.bool β, fun e => ⟨_, evP_of' rfl (evF_pick (hc e) hx hy), pick_weak (h1 e) (h2 e) hβ⟩, k⟩)
theorem Wand {c p : Operand} {t β : Bool} {X : AV} (hc : evX E ⟨nt, sl, ow, df⟩ c = .bool t) (hx : evX E ⟨nt, sl, ow, df⟩ p = X) (h1 : t = true → gOK X) (hβ : pv X = β)
    (k : W P E ops rest ⟨nt, (d, .bool (t && β)) :: sl, ow, df⟩ σ K) : W P E ops (⟨some d, .pick c p (.const (.bool false)), ty, pos, after, none⟩ :: rest) ⟨nt, sl, ow, df⟩ σ K :=
  Wp hc hx rfl h1 (fun _ => trivial) (by subst hβ; cases t <;> rfl) k
theorem Wor {c p : Operand} {t β : Bool} {X : AV} (hc : evX E ⟨nt, sl, ow, df⟩ c = .bool t) (hx : evX E ⟨nt, sl, ow, df⟩ p = X) (h1 : t = false → gOK X) (hβ : pv X = β)
    (k : W P E ops rest ⟨nt, (d, .bool (t || β)) :: sl, ow, df⟩ σ K) : W P E ops (⟨some d, .pick c (.const (.bool true)) p, ty, pos, after, none⟩ :: rest) ⟨nt, sl, ow, df⟩ σ K :=
  Wp hc rfl hx (fun _ => trivial) h1 (by subst hβ; cases t <;> rfl) k
theorem Wgand {c p : Operand} {t β : Bool} {X : AV} (hj : (ops[j]?).bind (·.dst) = some dj) (hb : guardB want (getA sl dj) = some b) (hc : b = true → evX E ⟨nt, sl, ow, df⟩ c = .bool t) (hx : evX E ⟨nt, sl, ow, df⟩ p = X) (h1 : b = true → t = true → gOK X) (hβ : pv X = β)
    (k : W P E ops rest ⟨nt, (d, .when b (.bool (t && β))) :: sl, ow, df⟩ σ K) : W P E ops (⟨some d, .pick c p (.const (.bool false)), ty, pos, after, some (j, want)⟩ :: rest) ⟨nt, sl, ow, df⟩ σ K :=
  Wgp hj hb hc hx rfl h1 (fun _ _ => trivial) (by subst hβ; cases t <;> rfl) k
theorem Wgor {c p : Operand} {t β : Bool} {X : AV} (hj : (ops[j]?).bind (·.dst) = some dj) (hb : guardB want (getA sl dj) = some b) (hc : b = true → evX E ⟨nt, sl, ow, df⟩ c = .bool t) (hx : evX E ⟨nt, sl, ow, df⟩ p = X) (h1 : b = true → t = false → gOK X) (hβ : pv X = β)
    (k : W P E ops rest ⟨nt, (d, .when b (.bool (t || β))) :: sl, ow, df⟩ σ K) : W P E ops (⟨some d, .pick c (.const (.bool true)) p, ty, pos, after, some (j, want)⟩ :: rest) ⟨nt, sl, ow, df⟩ σ K :=
  Wgp hj hb hc rfl hx (fun _ _ => trivial) h1 (by subst hβ; cases t <;> rfl) k
theorem We {dst : Option Nat} (h : evF E f σ op = none) (k : Eff P E f σ ⟨dst, op, ty, pos, after, none⟩ fun f' σ' x => W P E ops rest (f'.put dst x) σ' K) : W P E ops (⟨dst, op, ty, pos, after, none⟩ :: rest) f σ K := by
  refine .inl ?_
  simp only [One, h]
  exact k
/-- A call of a function that owns nothing of ours. -/
theorem Wc {o : Oper} {c : Call} {x : Operand} {fn : Nat} {caps args : List AV} {R : AV → Prop} (hg : o.guard = none) (hop : o.op = .call c) (hc : c.callee = .value x) (hx : evX E f x = .func fn caps)
    (hargs : (c.args.toList.map fun y => ers (evX E f y)) ++ caps = args) (h : PCall P E fn args R) (k : ∀ r, R r → W P E ops rest (f.put o.dst (es r)) σ K) : W P E ops (o :: rest) f σ K := by
  subst hargs
  simp only [W, hg]
  refine .inl ?_
  simp only [One, evF, hop, hc, Eff, hx]
  exact PCall.use h k
theorem Wgc {o : Oper} {c : Call} {x : Operand} {fn : Nat} {caps args : List AV} {z : AV} (hg : o.guard = some (j, want)) (hj : (ops[j]?).bind (·.dst) = some dj) (hb : guardB want (getA f.sl dj) = some b) (hop : o.op = .call c) (hc : c.callee = .value x) (hx : b = true → evX E f x = .func fn caps)
    (hargs : b = true → (c.args.toList.map fun y => ers (evX E f y)) ++ caps = args) (h : b = true → PCall P E fn args fun r => r = z) (k : W P E ops rest (f.put o.dst (.when b (es z))) σ K) : W P E ops (o :: rest) f σ K := by
  simp only [W, hg, hj, hb]
  exact .inr (.inr ⟨z, fun e => ⟨c, x, fn, caps, hop, hc, hx e, by rw [hargs e]; exact h e⟩, k⟩)
/-- A call of a function that is given boxes and maps of ours. -/
theorem Wcb {o : Oper} {c : Call} {x : Operand} {fn : Nat} {caps args : List AV} {R : AV → St → Prop} (σ1 σ2 : St) (hg : o.guard = none) (hop : o.op = .call c) (hc : c.callee = .value x) (hx : evX E f x = .func fn caps)
    (hargs : (c.args.toList.map fun y => ers (evX E f y)) ++ caps = args) (h : ACall P E fn args σ1 R) (pb : σ.box.Perm (σ1.box ++ σ2.box)) (pm : σ.map.Perm (σ1.map ++ σ2.map)) (k : ∀ r σ1', R r σ1' → W P E ops rest ((noCells f).put o.dst (es r)) (σ2.add σ1') K) : W P E ops (o :: rest) f σ K := by
  subst hargs
  simp only [W, hg]
  refine .inl ?_
  simp only [One, evF, hop, hc, Eff, hx]
  exact .inr ⟨σ1, σ2, pb, pm, ACall.mono h fun r σ hr => k r σ hr⟩
/-- A call of yield. -/
theorem Wy {o : Oper} {c : Call} {x : Operand} {l : Nat} {args : List AV} {R : AV → St → Prop} (σ1 σ2 : St) (hg : o.guard = none) (hop : o.op = .call c) (hc : c.callee = .value x) (hx : evX E f x = .val (.func (.yield l) #[] #[]))
    (hargs : (c.args.toList.map fun y => ers (evX E f y)) = args) (h : YCall P E l args σ1 R) (pb : σ.box.Perm (σ1.box ++ σ2.box)) (pm : σ.map.Perm (σ1.map ++ σ2.map)) (k : ∀ r σ1', R r σ1' → W P E ops rest ((noCells f).put o.dst (es r)) (σ2.add σ1') K) : W P E ops (o :: rest) f σ K := by
  subst hargs
  simp only [W, hg]
  refine .inl ?_
  simp only [One, evF, hop, hc, Eff, hx]
  exact ⟨σ1, σ2, pb, pm, fun w φ Ω vs h1 h2 => by
    obtain ⟨fn, tmps, assign, body, k1, k2⟩ := h w φ Ω vs h1 h2
    refine ⟨fn, tmps, assign, body, k1, k2.mono ?_⟩
    rintro e w' ⟨v, φ', Ω', r, σ', e1, hr, rest⟩
    exact ⟨v, φ', Ω', r, σ', e1, k r σ' hr, rest⟩⟩
end
section
variable {P : Program} {E : Env} {f : Fm} {σ : St} {ops : Array Oper} {rest : List Nat} {i d : Nat} {op : Op} {ty : TypeId} {pos : String} {after : Array Edge} {j dj : Nat} {want b : Bool} {K : Fm → Prop} {nt : Nat} {sl : List (Nat × AV)} {ow : List (Tag × (Nat × Nat))} {df : List Nat} {x z : AV}
/-! The same in a region that draws its order. -/
theorem WP_cons {o : Oper} (ho : ops[i]? = some o) : WP P E ops σ K (i :: rest) f = StepP P E ops σ o f (WP P E ops σ K rest) := by
  simp only [WP, ho]
theorem Pd (k : K f) : WP P E ops σ K [] f := k
theorem Pq (ho : ops[i]? = some ⟨some d, op, ty, pos, after, none⟩) (h : evP E ⟨nt, sl, ow, df⟩ σ ⟨some d, op, ty, pos, after, none⟩ = some x) (k : WP P E ops σ K rest ⟨nt, (d, x) :: sl, ow, df⟩) : WP P E ops σ K (i :: rest) ⟨nt, sl, ow, df⟩ := by
  rw [WP_cons ho]
  exact .inr ⟨x, ⟨x, h, .inl rfl⟩, k⟩
theorem full_weak {xs : List (List AV)} : Weak (.full xs) (.list .none xs) := by
  refine .inr ⟨.inr ⟨xs, rfl⟩, fun w φ v hr => ?_⟩
  simp only [Rep] at hr ⊢
  obtain ⟨A, n, rfl, h1, h3⟩ := hr
  exact ⟨A, n, n, rfl, h1, Nat.le_refl _, h3⟩
theorem Pl {xs : List (List AV)} (ho : ops[i]? = some ⟨some d, op, ty, pos, after, none⟩) (h : evP E ⟨nt, sl, ow, df⟩ σ ⟨some d, op, ty, pos, after, none⟩ = some (.full xs)) (k : WP P E ops σ K rest ⟨nt, (d, .list .none xs) :: sl, ow, df⟩) : WP P E ops σ K (i :: rest) ⟨nt, sl, ow, df⟩ := by
  rw [WP_cons ho]
  exact .inr ⟨_, ⟨_, h, full_weak⟩, k⟩
theorem Pg (ho : ops[i]? = some ⟨some d, op, ty, pos, after, some (j, want)⟩) (hj : (ops[j]?).bind (·.dst) = some dj) (hb : guardB want (getA sl dj) = some b) (h : b = true → evP E ⟨nt, sl, ow, df⟩ σ ⟨some d, op, ty, pos, after, some (j, want)⟩ = some x) (k : WP P E ops σ K rest ⟨nt, (d, .when b (es x)) :: sl, ow, df⟩) :
    WP P E ops σ K (i :: rest) ⟨nt, sl, ow, df⟩ := by
  rw [WP_cons ho]
  simp only [StepP, hj, hb]
  exact .inr (.inl ⟨x, fun e => ⟨x, h e, .inl rfl⟩, k⟩)
theorem evP_pick {o : Oper} {c p q : Operand} {t : Bool} {X Y : AV} (ho : o.op = .pick c p q) (hc : evX E f c = .bool t) (hx : evX E f p = X) (hy : evX E f q = Y) : evP E f σ o = some (if t then X else Y) := by
  unfold evP
  rw [ho, evF_pick hc hx hy]
theorem Pp {c p q : Operand} {t β : Bool} {X Y : AV} (ho : ops[i]? = some ⟨some d, .pick c p q, ty, pos, after, none⟩) (hc : evX E ⟨nt, sl, ow, df⟩ c = .bool t) (hx : evX E ⟨nt, sl, ow, df⟩ p = X) (hy : evX E ⟨nt, sl, ow, df⟩ q = Y) (h1 : t = true → gOK X) (h2 : t = false → gOK Y) (hβ : (if t then pv X else pv Y) = β)
    (k : WP P E ops σ K rest ⟨nt, (d, .bool β) :: sl, ow, df⟩) : WP P E ops σ K (i :: rest) ⟨nt, sl, ow, df⟩ := by
  rw [WP_cons ho]
  exact .inr ⟨.bool β, ⟨_, evP_pick rfl hc hx hy, pick_weak h1 h2 hβ⟩, k⟩
theorem Pgp {c p q : Operand} {t β : Bool} {X Y : AV} (ho : ops[i]? = some ⟨some d, .pick c p q, ty, pos, after, some (j, want)⟩) (hj : (ops[j]?).bind (·.dst) = some dj) (hb : guardB want (getA sl dj) = some b) (hc : b = true → evX E ⟨nt, sl, ow, df⟩ c = .bool t) (hx : evX E ⟨nt, sl, ow, df⟩ p = X) (hy : evX E ⟨nt, sl, ow, df⟩ q = Y) (h1 : b = true → t = true → gOK X) (h2 : b = true → t = false → gOK Y) (hβ : (if t then pv X else pv Y) = β)
    (k : WP P E ops σ K rest ⟨nt, (d, .when b (.bool β)) :: sl, ow, df⟩) : WP P E ops σ K (i :: rest) ⟨nt, sl, ow, df⟩ := by
  rw [WP_cons ho]
  simp only [StepP, hj, hb]
  exact .inr (.inl ⟨.bool β, fun e => ⟨_, evP_pick rfl (hc e) hx hy, pick_weak (h1 e) (h2 e) hβ⟩, k⟩)
theorem Pand {c p : Operand} {t β : Bool} {X : AV} (ho : ops[i]? = some ⟨some d, .pick c p (.const (.bool false)), ty, pos, after, none⟩) (hc : evX E ⟨nt, sl, ow, df⟩ c = .bool t) (hx : evX E ⟨nt, sl, ow, df⟩ p = X) (h1 : t = true → gOK X) (hβ : pv X = β)
    (k : WP P E ops σ K rest ⟨nt, (d, .bool (t && β)) :: sl, ow, df⟩) : WP P E ops σ K (i :: rest) ⟨nt, sl, ow, df⟩ :=
  Pp ho hc hx rfl h1 (fun _ => trivial) (by subst hβ; cases t <;> rfl) k
theorem Por {c p : Operand} {t β : Bool} {X : AV} (ho : ops[i]? = some ⟨some d, .pick c (.const (.bool true)) p, ty, pos, after, none⟩) (hc : evX E ⟨nt, sl, ow, df⟩ c = .bool t) (hx : evX E ⟨nt, sl, ow, df⟩ p = X) (h1 : t = false → gOK X) (hβ : pv X = β)
    (k : WP P E ops σ K rest ⟨nt, (d, .bool (t || β)) :: sl, ow, df⟩) : WP P E ops σ K (i :: rest) ⟨nt, sl, ow, df⟩ :=
  Pp ho hc rfl hx (fun _ => trivial) h1 (by subst hβ; cases t <;> rfl) k
theorem Pgand {c p : Operand} {t β : Bool} {X : AV} (ho : ops[i]? = some ⟨some d, .pick c p (.const (.bool false)), ty, pos, after, some (j, want)⟩) (hj : (ops[j]?).bind (·.dst) = some dj) (hb : guardB want (getA sl dj) = some b) (hc : b = true → evX E ⟨nt, sl, ow, df⟩ c = .bool t) (hx : evX E ⟨nt, sl, ow, df⟩ p = X) (h1 : b = true → t = true → gOK X) (hβ : pv X = β)
    (k : WP P E ops σ K rest ⟨nt, (d, .when b (.bool (t && β))) :: sl, ow, df⟩) : WP P E ops σ K (i :: rest) ⟨nt, sl, ow, df⟩ :=
  Pgp ho hj hb hc hx rfl h1 (fun _ _ => trivial) (by subst hβ; cases t <;> rfl) k
theorem Pgor {c p : Operand} {t β : Bool} {X : AV} (ho : ops[i]? = some ⟨some d, .pick c (.const (.bool true)) p, ty, pos, after, some (j, want)⟩) (hj : (ops[j]?).bind (·.dst) = some dj) (hb : guardB want (getA sl dj) = some b) (hc : b = true → evX E ⟨nt, sl, ow, df⟩ c = .bool t) (hx : evX E ⟨nt, sl, ow, df⟩ p = X) (h1 : b = true → t = false → gOK X) (hβ : pv X = β)
    (k : WP P E ops σ K rest ⟨nt, (d, .when b (.bool (t || β))) :: sl, ow, df⟩) : WP P E ops σ K (i :: rest) ⟨nt, sl, ow, df⟩ :=
  Pgp ho hj hb hc rfl hx (fun _ _ => trivial) h1 (by subst hβ; cases t <;> rfl) k
theorem Pc {o : Oper} {c : Call} {x : Operand} {fn : Nat} {caps args : List AV} {R : AV → Prop} (ho : ops[i]? = some o) (hg : o.guard = none) (hop : o.op = .call c) (hc : c.callee = .value x) (hx : evX E f x = .func fn caps)
    (hargs : (c.args.toList.map fun y => ers (evX E f y)) ++ caps = args) (h : PCall P E fn args R) (k : ∀ r, R r → WP P E ops σ K rest (f.put o.dst (es r))) : WP P E ops σ K (i :: rest) f := by
  subst hargs
  rw [WP_cons ho]
  unfold StepP
  rw [hg]
  refine .inl ?_
  unfold OneP evP evF
  simp only [hop, hc, hx]
  exact PCall.useP h k
theorem Pgc {o : Oper} {c : Call} {x : Operand} {fn : Nat} {caps args : List AV} {z : AV} (ho : ops[i]? = some o) (hg : o.guard = some (j, want)) (hj : (ops[j]?).bind (·.dst) = some dj) (hb : guardB want (getA f.sl dj) = some b) (hop : o.op = .call c) (hc : c.callee = .value x) (hx : b = true → evX E f x = .func fn caps)
    (hargs : b = true → (c.args.toList.map fun y => ers (evX E f y)) ++ caps = args) (h : b = true → PCall P E fn args fun r => r = z) (k : WP P E ops σ K rest (f.put o.dst (.when b (es z)))) : WP P E ops σ K (i :: rest) f := by
  rw [WP_cons ho]
  unfold StepP
  rw [hg]
  simp only [hj, hb]
  exact .inr (.inr ⟨by unfold isCall; rw [hop]; simp only [hc], z, fun e => ⟨c, x, fn, caps, hop, hc, hx e, by rw [hargs e]; exact h e⟩, k⟩)
@[simp] theorem int_bne (a b : Int) : (a != b) = !decide (a = b) := by
  by_cases h : a = b <;> simp [h]
@[simp] theorem int_beq (a b : Int) : (a == b) = decide (a = b) := by
  by_cases h : a = b <;> simp [h]
end
@[simp] theorem stripW_true (a : AV) : stripW (.when true a) = es a := rfl
@[simp] theorem stripW_any  : stripW (AV.any) = .any := rfl
@[simp] theorem stripW_bool (b : Bool) : stripW (AV.bool b) = .bool b := rfl
@[simp] theorem stripW_int (k : IntKind) (n : Int) : stripW (AV.int k n) = .int k n := rfl
@[simp] theorem stripW_str (s : List UInt8) : stripW (AV.str s) = .str s := rfl
@[simp] theorem stripW_ptr (b o : Nat) : stripW (AV.ptr b o) = .ptr b o := rfl
@[simp] theorem stripW_nilp  : stripW (AV.nilp) = .nilp := rfl
@[simp] theorem stripW_cptr (cs : List AV) : stripW (AV.cptr cs) = .cptr cs := rfl
@[simp] theorem stripW_list (t : Tag) (xs : List (List AV)) : stripW (AV.list t xs) = .list t xs := rfl
@[simp] theorem stripW_grow (n : Nat) (xs : List (List AV)) : stripW (AV.grow n xs) = .grow n xs := rfl
@[simp] theorem stripW_nils  : stripW (AV.nils) = .nils := rfl
@[simp] theorem stripW_map (b : Nat) : stripW (AV.map b) = .map b := rfl
@[simp] theorem stripW_nilm  : stripW (AV.nilm) = .nilm := rfl
@[simp] theorem stripW_func (f : Nat) (cs : List AV) : stripW (AV.func f cs) = .func f cs := rfl
@[simp] theorem stripW_nilf  : stripW (AV.nilf) = .nilf := rfl
@[simp] theorem stripW_agg (cs : List AV) : stripW (AV.agg cs) = .agg cs := rfl
@[simp] theorem stripW_tup (cs : List AV) : stripW (AV.tup cs) = .tup cs := rfl
@[simp] theorem stripW_val (v : Value) : stripW (AV.val v) = .val v := rfl
@[simp] theorem stripW_full (xs : List (List AV)) : stripW (AV.full xs) = .full xs := rfl
@[simp] theorem pv_bool (b : Bool) : pv (.bool b) = b := rfl
@[simp] theorem pv_when (g b : Bool) : pv (.when g (.bool b)) = b := rfl
@[simp] theorem gOK_bool (b : Bool) : gOK (.bool b) = True := rfl
@[simp] theorem gOK_when (g b : Bool) : gOK (.when g (.bool b)) = (g = true) := rfl
@[simp] theorem pv_strip (g b : Bool) : pv (stripW (.when g (.bool b))) = b := by cases g <;> rfl
@[simp] theorem gOK_strip (g b : Bool) : gOK (stripW (.when g (.bool b))) = (g = true) := by cases g <;> simp [stripW, gOK]
attribute [simp] OneP evP guardB unfull
end Go.Proofs.YtpjkepfplhllfaaDoor.Av
