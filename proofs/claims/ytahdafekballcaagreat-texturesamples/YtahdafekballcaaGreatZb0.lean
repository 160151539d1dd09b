/-
  The streams' reader (inflate): how its call that recovers is run; its fixed codes, told. Conditions: none.
-/
import Derived.Test.YtahdafekballcaaGreatBn0
import Derived.Test.YtahdafekballcaaGreatAm35
namespace Go.Proofs.YtahdafekballcaaGreat.AM
open Go Go.Proofs Go.RowKit
set_option linter.unusedVariables false

noncomputable def bodyI : Code := Tryz.f44.body.getD .skip
noncomputable def bodyJ : Code := Tryz.f60.body.getD .skip

noncomputable def inflD : Dfr Tryz.prog where
  f := 44
  G := 60
  fn := Tryz.f44
  gn := Tryz.f60
  a := cA bodyI
  rest := cB (cB bodyI)
  crest := cB bodyJ
  id := cId (cA (cB bodyI))
  id2 := cId (cA bodyJ)
  mko := opAt (cOps (cA (cB bodyI))) 0
  df := opAt (cOps (cA (cB bodyI))) 1
  rc := opAt (cOps (cA bodyJ)) 0
  t9 := opDst (opAt (cOps (cA (cB bodyI))) 0)
  t6 := opDst (opAt (cOps (cA bodyJ)) 0)
  cap := opCap (opAt (cOps (cA (cB bodyI))) 0)
  dc := opCall (opAt (cOps (cA (cB bodyI))) 1)
  rcc := opCall (opAt (cOps (cA bodyJ)) 0)
  hf := Tryz.func44
  hg := Tryz.func60
  hb := by kernel_rfl
  hgb := by kernel_rfl
  hmk := ⟨by kernel_rfl, by kernel_rfl, by kernel_rfl⟩
  hdf := ⟨by kernel_rfl, by kernel_rfl, by kernel_rfl⟩
  hdc := ⟨by kernel_rfl, by kernel_rfl⟩
  hrc := ⟨by kernel_rfl, by kernel_rfl, by kernel_rfl⟩
  hrcc := ⟨by kernel_rfl, by kernel_rfl⟩
  hgr := by kernel_rfl
  ht9 := of_decide_eq_true (by kernel_rfl)
  ht6 := of_decide_eq_true (by kernel_rfl)

theorem infl_off : (resSlots inflD.fn.results.toList).all (fun t => offC t inflD.rest) = true := by kernel_rfl

def fixV : AV := (.tup [(.agg [(.int .i64 (.ofNat 0)), (.int .i64 (.ofNat 0)), (.int .i64 (.ofNat 0)), (.int .i64 (.ofNat 0)), (.int .i64 (.ofNat 0)), (.int .i64 (.ofNat 0)), (.int .i64 (.ofNat 0)), (.int .i64 (.ofNat 24)), (.int .i64 (.ofNat 152)), (.int .i64 (.ofNat 112)), (.int .i64 (.ofNat 0)), (.int .i64 (.ofNat 0)), (.int .i64 (.ofNat 0)), (.int .i64 (.ofNat 0)), (.int .i64 (.ofNat 0)), (.int .i64 (.ofNat 0)), (.slice 3030 0 288 288 false 1), (.bool false)]), (.agg [(.int .i64 (.ofNat 0)), (.int .i64 (.ofNat 0)), (.int .i64 (.ofNat 0)), (.int .i64 (.ofNat 0)), (.int .i64 (.ofNat 0)), (.int .i64 (.ofNat 32)), (.int .i64 (.ofNat 0)), (.int .i64 (.ofNat 0)), (.int .i64 (.ofNat 0)), (.int .i64 (.ofNat 0)), (.int .i64 (.ofNat 0)), (.int .i64 (.ofNat 0)), (.int .i64 (.ofNat 0)), (.int .i64 (.ofNat 0)), (.int .i64 (.ofNat 0)), (.int .i64 (.ofNat 0)), (.slice 3265 0 32 32 false 1), (.bool false)])])
def fixB : List Blk := [⟨3030, [(.int .i64 (.ofNat 256)), (.int .i64 (.ofNat 257)), (.int .i64 (.ofNat 258)), (.int .i64 (.ofNat 259)), (.int .i64 (.ofNat 260)), (.int .i64 (.ofNat 261)), (.int .i64 (.ofNat 262)), (.int .i64 (.ofNat 263)), (.int .i64 (.ofNat 264)), (.int .i64 (.ofNat 265)), (.int .i64 (.ofNat 266)), (.int .i64 (.ofNat 267)), (.int .i64 (.ofNat 268)), (.int .i64 (.ofNat 269)), (.int .i64 (.ofNat 270)), (.int .i64 (.ofNat 271)), (.int .i64 (.ofNat 272)), (.int .i64 (.ofNat 273)), (.int .i64 (.ofNat 274)), (.int .i64 (.ofNat 275)), (.int .i64 (.ofNat 276)), (.int .i64 (.ofNat 277)), (.int .i64 (.ofNat 278)), (.int .i64 (.ofNat 279)), (.int .i64 (.ofNat 0)), (.int .i64 (.ofNat 1)), (.int .i64 (.ofNat 2)), (.int .i64 (.ofNat 3)), (.int .i64 (.ofNat 4)), (.int .i64 (.ofNat 5)), (.int .i64 (.ofNat 6)), (.int .i64 (.ofNat 7)), (.int .i64 (.ofNat 8)), (.int .i64 (.ofNat 9)), (.int .i64 (.ofNat 10)), (.int .i64 (.ofNat 11)), (.int .i64 (.ofNat 12)), (.int .i64 (.ofNat 13)), (.int .i64 (.ofNat 14)), (.int .i64 (.ofNat 15)), (.int .i64 (.ofNat 16)), (.int .i64 (.ofNat 17)), (.int .i64 (.ofNat 18)), (.int .i64 (.ofNat 19)), (.int .i64 (.ofNat 20)), (.int .i64 (.ofNat 21)), (.int .i64 (.ofNat 22)), (.int .i64 (.ofNat 23)), (.int .i64 (.ofNat 24)), (.int .i64 (.ofNat 25)), (.int .i64 (.ofNat 26)), (.int .i64 (.ofNat 27)), (.int .i64 (.ofNat 28)), (.int .i64 (.ofNat 29)), (.int .i64 (.ofNat 30)), (.int .i64 (.ofNat 31)), (.int .i64 (.ofNat 32)), (.int .i64 (.ofNat 33)), (.int .i64 (.ofNat 34)), (.int .i64 (.ofNat 35)), (.int .i64 (.ofNat 36)), (.int .i64 (.ofNat 37)), (.int .i64 (.ofNat 38)), (.int .i64 (.ofNat 39)), (.int .i64 (.ofNat 40)), (.int .i64 (.ofNat 41)), (.int .i64 (.ofNat 42)), (.int .i64 (.ofNat 43)), (.int .i64 (.ofNat 44)), (.int .i64 (.ofNat 45)), (.int .i64 (.ofNat 46)), (.int .i64 (.ofNat 47)), (.int .i64 (.ofNat 48)), (.int .i64 (.ofNat 49)), (.int .i64 (.ofNat 50)), (.int .i64 (.ofNat 51)), (.int .i64 (.ofNat 52)), (.int .i64 (.ofNat 53)), (.int .i64 (.ofNat 54)), (.int .i64 (.ofNat 55)), (.int .i64 (.ofNat 56)), (.int .i64 (.ofNat 57)), (.int .i64 (.ofNat 58)), (.int .i64 (.ofNat 59)), (.int .i64 (.ofNat 60)), (.int .i64 (.ofNat 61)), (.int .i64 (.ofNat 62)), (.int .i64 (.ofNat 63)), (.int .i64 (.ofNat 64)), (.int .i64 (.ofNat 65)), (.int .i64 (.ofNat 66)), (.int .i64 (.ofNat 67)), (.int .i64 (.ofNat 68)), (.int .i64 (.ofNat 69)), (.int .i64 (.ofNat 70)), (.int .i64 (.ofNat 71)), (.int .i64 (.ofNat 72)), (.int .i64 (.ofNat 73)), (.int .i64 (.ofNat 74)), (.int .i64 (.ofNat 75)), (.int .i64 (.ofNat 76)), (.int .i64 (.ofNat 77)), (.int .i64 (.ofNat 78)), (.int .i64 (.ofNat 79)), (.int .i64 (.ofNat 80)), (.int .i64 (.ofNat 81)), (.int .i64 (.ofNat 82)), (.int .i64 (.ofNat 83)), (.int .i64 (.ofNat 84)), (.int .i64 (.ofNat 85)), (.int .i64 (.ofNat 86)), (.int .i64 (.ofNat 87)), (.int .i64 (.ofNat 88)), (.int .i64 (.ofNat 89)), (.int .i64 (.ofNat 90)), (.int .i64 (.ofNat 91)), (.int .i64 (.ofNat 92)), (.int .i64 (.ofNat 93)), (.int .i64 (.ofNat 94)), (.int .i64 (.ofNat 95)), (.int .i64 (.ofNat 96)), (.int .i64 (.ofNat 97)), (.int .i64 (.ofNat 98)), (.int .i64 (.ofNat 99)), (.int .i64 (.ofNat 100)), (.int .i64 (.ofNat 101)), (.int .i64 (.ofNat 102)), (.int .i64 (.ofNat 103)), (.int .i64 (.ofNat 104)), (.int .i64 (.ofNat 105)), (.int .i64 (.ofNat 106)), (.int .i64 (.ofNat 107)), (.int .i64 (.ofNat 108)), (.int .i64 (.ofNat 109)), (.int .i64 (.ofNat 110)), (.int .i64 (.ofNat 111)), (.int .i64 (.ofNat 112)), (.int .i64 (.ofNat 113)), (.int .i64 (.ofNat 114)), (.int .i64 (.ofNat 115)), (.int .i64 (.ofNat 116)), (.int .i64 (.ofNat 117)), (.int .i64 (.ofNat 118)), (.int .i64 (.ofNat 119)), (.int .i64 (.ofNat 120)), (.int .i64 (.ofNat 121)), (.int .i64 (.ofNat 122)), (.int .i64 (.ofNat 123)), (.int .i64 (.ofNat 124)), (.int .i64 (.ofNat 125)), (.int .i64 (.ofNat 126)), (.int .i64 (.ofNat 127)), (.int .i64 (.ofNat 128)), (.int .i64 (.ofNat 129)), (.int .i64 (.ofNat 130)), (.int .i64 (.ofNat 131)), (.int .i64 (.ofNat 132)), (.int .i64 (.ofNat 133)), (.int .i64 (.ofNat 134)), (.int .i64 (.ofNat 135)), (.int .i64 (.ofNat 136)), (.int .i64 (.ofNat 137)), (.int .i64 (.ofNat 138)), (.int .i64 (.ofNat 139)), (.int .i64 (.ofNat 140)), (.int .i64 (.ofNat 141)), (.int .i64 (.ofNat 142)), (.int .i64 (.ofNat 143)), (.int .i64 (.ofNat 280)), (.int .i64 (.ofNat 281)), (.int .i64 (.ofNat 282)), (.int .i64 (.ofNat 283)), (.int .i64 (.ofNat 284)), (.int .i64 (.ofNat 285)), (.int .i64 (.ofNat 286)), (.int .i64 (.ofNat 287)), (.int .i64 (.ofNat 144)), (.int .i64 (.ofNat 145)), (.int .i64 (.ofNat 146)), (.int .i64 (.ofNat 147)), (.int .i64 (.ofNat 148)), (.int .i64 (.ofNat 149)), (.int .i64 (.ofNat 150)), (.int .i64 (.ofNat 151)), (.int .i64 (.ofNat 152)), (.int .i64 (.ofNat 153)), (.int .i64 (.ofNat 154)), (.int .i64 (.ofNat 155)), (.int .i64 (.ofNat 156)), (.int .i64 (.ofNat 157)), (.int .i64 (.ofNat 158)), (.int .i64 (.ofNat 159)), (.int .i64 (.ofNat 160)), (.int .i64 (.ofNat 161)), (.int .i64 (.ofNat 162)), (.int .i64 (.ofNat 163)), (.int .i64 (.ofNat 164)), (.int .i64 (.ofNat 165)), (.int .i64 (.ofNat 166)), (.int .i64 (.ofNat 167)), (.int .i64 (.ofNat 168)), (.int .i64 (.ofNat 169)), (.int .i64 (.ofNat 170)), (.int .i64 (.ofNat 171)), (.int .i64 (.ofNat 172)), (.int .i64 (.ofNat 173)), (.int .i64 (.ofNat 174)), (.int .i64 (.ofNat 175)), (.int .i64 (.ofNat 176)), (.int .i64 (.ofNat 177)), (.int .i64 (.ofNat 178)), (.int .i64 (.ofNat 179)), (.int .i64 (.ofNat 180)), (.int .i64 (.ofNat 181)), (.int .i64 (.ofNat 182)), (.int .i64 (.ofNat 183)), (.int .i64 (.ofNat 184)), (.int .i64 (.ofNat 185)), (.int .i64 (.ofNat 186)), (.int .i64 (.ofNat 187)), (.int .i64 (.ofNat 188)), (.int .i64 (.ofNat 189)), (.int .i64 (.ofNat 190)), (.int .i64 (.ofNat 191)), (.int .i64 (.ofNat 192)), (.int .i64 (.ofNat 193)), (.int .i64 (.ofNat 194)), (.int .i64 (.ofNat 195)), (.int .i64 (.ofNat 196)), (.int .i64 (.ofNat 197)), (.int .i64 (.ofNat 198)), (.int .i64 (.ofNat 199)), (.int .i64 (.ofNat 200)), (.int .i64 (.ofNat 201)), (.int .i64 (.ofNat 202)), (.int .i64 (.ofNat 203)), (.int .i64 (.ofNat 204)), (.int .i64 (.ofNat 205)), (.int .i64 (.ofNat 206)), (.int .i64 (.ofNat 207)), (.int .i64 (.ofNat 208)), (.int .i64 (.ofNat 209)), (.int .i64 (.ofNat 210)), (.int .i64 (.ofNat 211)), (.int .i64 (.ofNat 212)), (.int .i64 (.ofNat 213)), (.int .i64 (.ofNat 214)), (.int .i64 (.ofNat 215)), (.int .i64 (.ofNat 216)), (.int .i64 (.ofNat 217)), (.int .i64 (.ofNat 218)), (.int .i64 (.ofNat 219)), (.int .i64 (.ofNat 220)), (.int .i64 (.ofNat 221)), (.int .i64 (.ofNat 222)), (.int .i64 (.ofNat 223)), (.int .i64 (.ofNat 224)), (.int .i64 (.ofNat 225)), (.int .i64 (.ofNat 226)), (.int .i64 (.ofNat 227)), (.int .i64 (.ofNat 228)), (.int .i64 (.ofNat 229)), (.int .i64 (.ofNat 230)), (.int .i64 (.ofNat 231)), (.int .i64 (.ofNat 232)), (.int .i64 (.ofNat 233)), (.int .i64 (.ofNat 234)), (.int .i64 (.ofNat 235)), (.int .i64 (.ofNat 236)), (.int .i64 (.ofNat 237)), (.int .i64 (.ofNat 238)), (.int .i64 (.ofNat 239)), (.int .i64 (.ofNat 240)), (.int .i64 (.ofNat 241)), (.int .i64 (.ofNat 242)), (.int .i64 (.ofNat 243)), (.int .i64 (.ofNat 244)), (.int .i64 (.ofNat 245)), (.int .i64 (.ofNat 246)), (.int .i64 (.ofNat 247)), (.int .i64 (.ofNat 248)), (.int .i64 (.ofNat 249)), (.int .i64 (.ofNat 250)), (.int .i64 (.ofNat 251)), (.int .i64 (.ofNat 252)), (.int .i64 (.ofNat 253)), (.int .i64 (.ofNat 254)), (.int .i64 (.ofNat 255))], true⟩, ⟨3265, [(.int .i64 (.ofNat 0)), (.int .i64 (.ofNat 1)), (.int .i64 (.ofNat 2)), (.int .i64 (.ofNat 3)), (.int .i64 (.ofNat 4)), (.int .i64 (.ofNat 5)), (.int .i64 (.ofNat 6)), (.int .i64 (.ofNat 7)), (.int .i64 (.ofNat 8)), (.int .i64 (.ofNat 9)), (.int .i64 (.ofNat 10)), (.int .i64 (.ofNat 11)), (.int .i64 (.ofNat 12)), (.int .i64 (.ofNat 13)), (.int .i64 (.ofNat 14)), (.int .i64 (.ofNat 15)), (.int .i64 (.ofNat 16)), (.int .i64 (.ofNat 17)), (.int .i64 (.ofNat 18)), (.int .i64 (.ofNat 19)), (.int .i64 (.ofNat 20)), (.int .i64 (.ofNat 21)), (.int .i64 (.ofNat 22)), (.int .i64 (.ofNat 23)), (.int .i64 (.ofNat 24)), (.int .i64 (.ofNat 25)), (.int .i64 (.ofNat 26)), (.int .i64 (.ofNat 27)), (.int .i64 (.ofNat 28)), (.int .i64 (.ofNat 29)), (.int .i64 (.ofNat 30)), (.int .i64 (.ofNat 31))], true⟩]

theorem fix_run : madeTo fixV fixB (callC Tryz.prog noX 3000 65 [] ⟨1000, .nil⟩) = true := by kernel_rfl

/-- The fixed codes, told. -/
noncomputable def XFix : Told := toldH 65 fixV fixB
theorem XFix_ok : ToldOK Tryz.prog XFix := toldH_of_run mixed names told_none_ok told_none_hu fix_run ⟨_, _, Tryz.func65, rfl⟩
theorem XFix_hu : ToldHU XFix := toldH_hu _ _ _

/-- The reader, run fast; and what that stands for. -/
noncomputable def XE : Told := joinT (fastD inflD XFix 3000) XFix
noncomputable def XS : Told := joinT (toldD inflD XFix) XFix
theorem XE_finer : Finer XE XS := joinT_finer (fastD_finer infl_off) (Finer.refl _)
theorem XS_ok : ToldOK Tryz.prog XS := joinT_ok (toldD_ok mixed names XFix_ok XFix_hu inflD) XFix_ok
theorem XS_hu : ToldHU XS := joinT_hu (toldD_hu XFix_hu inflD) XFix_hu

theorem isTrue_runsE {n : Nat} {f : FuncId} {args : List AV} {h : Heap} (e : isTrue (callC Tryz.prog XE n f args h) = true) : ∃ h', Runs Tryz.prog XS f args h (.ret (.bool true)) h' := by
  cases hc : callC Tryz.prog XE n f args h with
  | none => rw [hc] at e; cases e
  | some r =>
    obtain ⟨v, h'⟩ := r
    rw [hc] at e
    match v, e with
    | .ret (.bool true), _ => exact ⟨h', (callC_ok n f args h _ _ hc).finer XE_finer⟩

theorem runs_callsE {f : FuncId} {args : List AV} {h h' : Heap} {b : Bool} (r : Runs Tryz.prog XS f args h (.ret (.bool b)) h') {w : World} {ρ : Rho} {vs : Array Value} (S : Sim w.heap.size w ρ h w) (hv : VRL ρ args vs.toList) (hbody : ∃ fn c, Tryz.prog.funcs[f]? = some fn ∧ fn.body = some c) :
    Calls Tryz.prog f vs w fun e w' => e = .returned (.bool b) ∧ Below w.heap.size w w' :=
  r.calls mixed names XS_ok XS_hu S hv hbody

end Go.Proofs.YtahdafekballcaaGreat.AM
