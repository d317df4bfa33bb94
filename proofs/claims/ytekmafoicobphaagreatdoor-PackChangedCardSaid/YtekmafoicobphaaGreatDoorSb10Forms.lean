/- Codes: the tables of forms and asks. -/
import Derived.Test.YtekmafoicobphaaGreatDoorSb10Chk2
set_option linter.unusedVariables false
set_option linter.unusedSimpArgs false
namespace Go.Proofs.YtekmafoicobphaaGreatDoor
open Go.Sb
set_option maxRecDepth 100000
theorem ydf {E : Env} {md : Go.FuncId → Sb.Mode} {o : ROp} {os : List ROp} {s : List V} {h g : Heap} {v : V} {K : List V → Heap → Prop} {a0 a1 a2 a3 a4 a5 a6 a7 a8 a9 a10 a11 a12 a13 a14 a15 a16 a17 : V} (hn : yag E md os [a0, a1, a2, a3, a4, a5, a6, a7, a8, a9, a10, a11, a12, a13, a14, a15, a16, a17] g K) (hop : ∀ K : V → Heap → Prop, K v g → runOp E md o.op s h K := by exact fun _ => id) (hg : o.gd = none := by rfl) (hs : putT s o.dst v = [a0, a1, a2, a3, a4, a5, a6, a7, a8, a9, a10, a11, a12, a13, a14, a15, a16, a17] := by rfl) : yag E md (o :: os) s h K := ybe hg hop hs hn
theorem yce {E : Env} {md : Go.FuncId → Sb.Mode} {o : ROp} {os : List ROp} {s : List V} {h g : Heap} {v : V} {K : List V → Heap → Prop} {a0 a1 a2 a3 a4 a5 a6 a7 a8 a9 a10 a11 a12 a13 a14 a15 a16 a17 a18 a19 a20 a21 a22 a23 : V} (hn : yag E md os [a0, a1, a2, a3, a4, a5, a6, a7, a8, a9, a10, a11, a12, a13, a14, a15, a16, a17, a18, a19, a20, a21, a22, a23] g K) (hop : ∀ K : V → Heap → Prop, K v g → runOp E md o.op s h K := by exact fun _ => id) (hg : o.gd = none := by rfl) (hs : putT s o.dst v = [a0, a1, a2, a3, a4, a5, a6, a7, a8, a9, a10, a11, a12, a13, a14, a15, a16, a17, a18, a19, a20, a21, a22, a23] := by rfl) : yag E md (o :: os) s h K := ybe hg hop hs hn
def fN (op : Int) : List UInt8 := if op = 1 then [99, 111, 110, 115, 116] else if op = 2 then [109, 111, 118, 101] else if op = 3 then [117, 110, 97, 114, 121] else if op = 4 then [98, 105, 110, 97, 114, 121] else if op = 5 then [106, 117, 109, 112] else if op = 6 then [102, 97, 108, 115, 101] else if op = 7 then [99, 97, 108, 108] else if op = 8 then [114, 101, 116, 117, 114, 110] else if op = 9 then [116, 104, 114, 111, 119] else if op = 10 then [97, 115, 107] else if op = 11 then [97, 114, 109] else if op = 12 then [115, 119, 105, 116, 99, 104] else if op = 13 then [102, 97, 117, 108, 116] else if op = 14 then [114, 97, 105, 115, 101] else []
def fA (op : Int) : Int := if op = 1 then 1 else if op = 2 then 1 else if op = 3 then 1 else if op = 4 then 1 else if op = 5 then 3 else if op = 6 then 1 else if op = 7 then 2 else if op = 8 then 2 else if op = 9 then 1 else if op = 10 then 2 else if op = 11 then 4 else if op = 12 then 1 else if op = 13 then 1 else if op = 14 then 1 else 0
def fB (op : Int) : Int := if op = 2 then 1 else if op = 3 then 4 else if op = 4 then 4 else if op = 6 then 3 else if op = 7 then 4 else if op = 10 then 4 else if op = 13 then 3 else 0
def fC (op : Int) : Int := if op = 3 then 1 else if op = 4 then 1 else if op = 10 then 4 else 0
def fLo (op : Int) : Int := if op = 4 then 1 else if op = 11 then 1 else if op = 12 then 1 else 0
def fHi (op : Int) : Int := if op = 4 then 1 else if op = 7 then 5 else if op = 10 then 5 else if op = 11 then 2 else if op = 12 then 9223372036854775807 else 0
def fPl (op : Int) : Bool := if op = 12 then true else false
def fVa (op : Int) : Bool := if op = 1 then true else false
def fGo (op : Int) : Bool := if op = 1 then true else if op = 2 then true else if op = 3 then true else if op = 4 then true else if op = 6 then true else if op = 7 then true else if op = 10 then true else if op = 11 then true else if op = 13 then true else false
def fRa (op : Int) : Bool := if op = 3 then true else if op = 4 then true else if op = 6 then true else if op = 7 then true else if op = 9 then true else if op = 10 then true else if op = 12 then true else if op = 14 then true else false
def kLo (b : Int) : Int := if b = 2 then 1 else if b = 3 then 1 else if b = 6 then 1 else if b = 7 then 1 else if b = 8 then 1 else if b = 9 then 2 else if b = 10 then 1 else if b = 11 then 1 else if b = 12 then 1 else if b = 13 then 1 else if b = 14 then 1 else if b = 15 then 1 else if b = 20 then 1 else if b = 21 then 1 else 0
def kHi (b : Int) : Int := if b = 2 then 1 else if b = 3 then 1 else if b = 6 then 1 else if b = 7 then 1 else if b = 8 then 1 else if b = 9 then 2 else if b = 10 then 1 else if b = 11 then 1 else if b = 12 then 1 else if b = 13 then 1 else if b = 14 then 1 else if b = 15 then 1 else if b = 16 then 1 else if b = 17 then 1 else if b = 20 then 1 else if b = 21 then 1 else 0
def kC (b : Int) : Int := if b = 8 then 2 else if b = 15 then 1 else if b = 16 then 1 else 0
def formV (op : Int) : V := .agg [.str (fN op), .int .i64 (fA op), .int .i64 (fB op), .int .i64 (fC op), .int .i64 (fLo op), .int .i64 (fHi op), .bool (fPl op), .bool (fVa op), .bool (fGo op), .bool (fRa op)]
def askV (b : Int) : V := .agg [.int .i64 (kLo b), .int .i64 (kHi b), .int .i64 (kC b)]
def formsL : List (V × V) := [(.int .i64 1, formV 1), (.int .i64 2, formV 2), (.int .i64 3, formV 3), (.int .i64 4, formV 4), (.int .i64 5, formV 5), (.int .i64 6, formV 6), (.int .i64 7, formV 7), (.int .i64 8, formV 8), (.int .i64 9, formV 9), (.int .i64 10, formV 10), (.int .i64 11, formV 11), (.int .i64 12, formV 12), (.int .i64 13, formV 13), (.int .i64 14, formV 14)]
def asksL : List (V × V) := [(.int .i64 1, askV 1), (.int .i64 2, askV 2), (.int .i64 3, askV 3), (.int .i64 4, askV 4), (.int .i64 6, askV 6), (.int .i64 7, askV 7), (.int .i64 8, askV 8), (.int .i64 9, askV 9), (.int .i64 10, askV 10), (.int .i64 11, askV 11), (.int .i64 12, askV 12), (.int .i64 13, askV 13), (.int .i64 14, askV 14), (.int .i64 15, askV 15), (.int .i64 16, askV 16), (.int .i64 17, askV 17), (.int .i64 18, askV 18), (.int .i64 19, askV 19), (.int .i64 20, askV 20), (.int .i64 21, askV 21)]
set_option maxHeartbeats 4000000 in
theorem yrn (h : Heap) : Has envQ .shared 111 [] h (.val (.mp h.length) (Sb.push h (.map formsL))) := by
 suffices hx : ∃ v g, Has envQ .shared 111 [] h (.val v g) ∧ v = .mp h.length ∧ g = Sb.push h (.map formsL) by
  obtain ⟨v, g, h1, rfl, rfl⟩ := hx; exact h1
 refine HasP.sharedE (d := fn111) rfl (jT rfl) ?_
 apply jA
 apply jB
 apply jA
 refine jR _ ?_
 refine yra (E := envQ) rfl rfl ?_
 refine ydf (v := .agg [.str [99, 111, 110, 115, 116], .int .i64 1, .int .i64 0, .int .i64 0, .int .i64 0, .int .i64 0, .bool false, .bool true, .bool true, .bool false]) ?_
 refine ybl (g := Sb.push h (.map (formsL.take 1))) (ybk (E := envQ) (es := formsL.take 0) rfl rfl rfl rfl rfl) ?_
 refine ydf (v := .agg [.str [109, 111, 118, 101], .int .i64 1, .int .i64 1, .int .i64 0, .int .i64 0, .int .i64 0, .bool false, .bool false, .bool true, .bool false]) ?_
 refine ybl (g := Sb.push h (.map (formsL.take 2))) (ybk (E := envQ) (es := formsL.take 1) rfl rfl rfl rfl rfl) ?_
 refine ydf (v := .agg [.str [117, 110, 97, 114, 121], .int .i64 1, .int .i64 4, .int .i64 1, .int .i64 0, .int .i64 0, .bool false, .bool false, .bool true, .bool true]) ?_
 refine ybl (g := Sb.push h (.map (formsL.take 3))) (ybk (E := envQ) (es := formsL.take 2) rfl rfl rfl rfl rfl) ?_
 refine ydf (v := .agg [.str [98, 105, 110, 97, 114, 121], .int .i64 1, .int .i64 4, .int .i64 1, .int .i64 1, .int .i64 1, .bool false, .bool false, .bool true, .bool true]) ?_
 refine ybl (g := Sb.push h (.map (formsL.take 4))) (ybk (E := envQ) (es := formsL.take 3) rfl rfl rfl rfl rfl) ?_
 refine ydf (v := .agg [.str [106, 117, 109, 112], .int .i64 3, .int .i64 0, .int .i64 0, .int .i64 0, .int .i64 0, .bool false, .bool false, .bool false, .bool false]) ?_
 refine ybl (g := Sb.push h (.map (formsL.take 5))) (ybk (E := envQ) (es := formsL.take 4) rfl rfl rfl rfl rfl) ?_
 refine ydf (v := .agg [.str [102, 97, 108, 115, 101], .int .i64 1, .int .i64 3, .int .i64 0, .int .i64 0, .int .i64 0, .bool false, .bool false, .bool true, .bool true]) ?_
 refine ybl (g := Sb.push h (.map (formsL.take 6))) (ybk (E := envQ) (es := formsL.take 5) rfl rfl rfl rfl rfl) ?_
 refine ydf (v := .agg [.str [99, 97, 108, 108], .int .i64 2, .int .i64 4, .int .i64 0, .int .i64 0, .int .i64 5, .bool false, .bool false, .bool true, .bool true]) ?_
 refine ybl (g := Sb.push h (.map (formsL.take 7))) (ybk (E := envQ) (es := formsL.take 6) rfl rfl rfl rfl rfl) ?_
 refine ydf (v := .agg [.str [114, 101, 116, 117, 114, 110], .int .i64 2, .int .i64 0, .int .i64 0, .int .i64 0, .int .i64 0, .bool false, .bool false, .bool false, .bool false]) ?_
 refine ybl (g := Sb.push h (.map (formsL.take 8))) (ybk (E := envQ) (es := formsL.take 7) rfl rfl rfl rfl rfl) ?_
 refine ydf (v := .agg [.str [116, 104, 114, 111, 119], .int .i64 1, .int .i64 0, .int .i64 0, .int .i64 0, .int .i64 0, .bool false, .bool false, .bool false, .bool true]) ?_
 refine ybl (g := Sb.push h (.map (formsL.take 9))) (ybk (E := envQ) (es := formsL.take 8) rfl rfl rfl rfl rfl) ?_
 refine ydf (v := .agg [.str [97, 115, 107], .int .i64 2, .int .i64 4, .int .i64 4, .int .i64 0, .int .i64 5, .bool false, .bool false, .bool true, .bool true]) ?_
 refine ybl (g := Sb.push h (.map (formsL.take 10))) (ybk (E := envQ) (es := formsL.take 9) rfl rfl rfl rfl rfl) ?_
 refine ydf (v := .agg [.str [97, 114, 109], .int .i64 4, .int .i64 0, .int .i64 0, .int .i64 1, .int .i64 2, .bool false, .bool false, .bool true, .bool false]) ?_
 refine ybl (g := Sb.push h (.map (formsL.take 11))) (ybk (E := envQ) (es := formsL.take 10) rfl rfl rfl rfl rfl) ?_
 refine ydf (v := .agg [.str [115, 119, 105, 116, 99, 104], .int .i64 1, .int .i64 0, .int .i64 0, .int .i64 1, .int .i64 9223372036854775807, .bool true, .bool false, .bool false, .bool true]) ?_
 refine ybl (g := Sb.push h (.map (formsL.take 12))) (ybk (E := envQ) (es := formsL.take 11) rfl rfl rfl rfl rfl) ?_
 refine ydf (v := .agg [.str [102, 97, 117, 108, 116], .int .i64 1, .int .i64 3, .int .i64 0, .int .i64 0, .int .i64 0, .bool false, .bool false, .bool true, .bool false]) ?_
 refine ybl (g := Sb.push h (.map (formsL.take 13))) (ybk (E := envQ) (es := formsL.take 12) rfl rfl rfl rfl rfl) ?_
 refine ydf (v := .agg [.str [114, 97, 105, 115, 101], .int .i64 1, .int .i64 0, .int .i64 0, .int .i64 0, .int .i64 0, .bool false, .bool false, .bool false, .bool true]) ?_
 refine ybl (g := Sb.push h (.map (formsL.take 14))) (ybk (E := envQ) (es := formsL.take 13) rfl rfl rfl rfl rfl) ?_
 refine jV ?_
 exact ⟨rfl, rfl, rfl⟩
set_option maxHeartbeats 4000000 in
theorem asks_has (h : Heap) : Has envQ .shared 137 [] h (.val (.mp h.length) (Sb.push h (.map asksL))) := by
 suffices hx : ∃ v g, Has envQ .shared 137 [] h (.val v g) ∧ v = .mp h.length ∧ g = Sb.push h (.map asksL) by
  obtain ⟨v, g, h1, rfl, rfl⟩ := hx; exact h1
 refine HasP.sharedE (d := fn137) rfl (jT rfl) ?_
 apply jA
 apply jB
 apply jA
 refine jR _ ?_
 refine yra (E := envQ) rfl rfl ?_
 refine yce (v := .agg [.int .i64 0, .int .i64 0, .int .i64 0]) ?_
 refine ybl (g := Sb.push h (.map (asksL.take 1))) (ybk (E := envQ) (es := asksL.take 0) rfl rfl rfl rfl rfl) ?_
 refine yce (v := .agg [.int .i64 1, .int .i64 1, .int .i64 0]) ?_
 refine ybl (g := Sb.push h (.map (asksL.take 2))) (ybk (E := envQ) (es := asksL.take 1) rfl rfl rfl rfl rfl) ?_
 refine yce (v := .agg [.int .i64 1, .int .i64 1, .int .i64 0]) ?_
 refine ybl (g := Sb.push h (.map (asksL.take 3))) (ybk (E := envQ) (es := asksL.take 2) rfl rfl rfl rfl rfl) ?_
 refine yce (v := .agg [.int .i64 0, .int .i64 0, .int .i64 0]) ?_
 refine ybl (g := Sb.push h (.map (asksL.take 4))) (ybk (E := envQ) (es := asksL.take 3) rfl rfl rfl rfl rfl) ?_
 refine yce (v := .agg [.int .i64 1, .int .i64 1, .int .i64 0]) ?_
 refine ybl (g := Sb.push h (.map (asksL.take 5))) (ybk (E := envQ) (es := asksL.take 4) rfl rfl rfl rfl rfl) ?_
 refine yce (v := .agg [.int .i64 1, .int .i64 1, .int .i64 0]) ?_
 refine ybl (g := Sb.push h (.map (asksL.take 6))) (ybk (E := envQ) (es := asksL.take 5) rfl rfl rfl rfl rfl) ?_
 refine yce (v := .agg [.int .i64 1, .int .i64 1, .int .i64 2]) ?_
 refine ybl (g := Sb.push h (.map (asksL.take 7))) (ybk (E := envQ) (es := asksL.take 6) rfl rfl rfl rfl rfl) ?_
 refine yce (v := .agg [.int .i64 2, .int .i64 2, .int .i64 0]) ?_
 refine ybl (g := Sb.push h (.map (asksL.take 8))) (ybk (E := envQ) (es := asksL.take 7) rfl rfl rfl rfl rfl) ?_
 refine yce (v := .agg [.int .i64 1, .int .i64 1, .int .i64 0]) ?_
 refine ybl (g := Sb.push h (.map (asksL.take 9))) (ybk (E := envQ) (es := asksL.take 8) rfl rfl rfl rfl rfl) ?_
 refine yce (v := .agg [.int .i64 1, .int .i64 1, .int .i64 0]) ?_
 refine ybl (g := Sb.push h (.map (asksL.take 10))) (ybk (E := envQ) (es := asksL.take 9) rfl rfl rfl rfl rfl) ?_
 refine yce (v := .agg [.int .i64 1, .int .i64 1, .int .i64 0]) ?_
 refine ybl (g := Sb.push h (.map (asksL.take 11))) (ybk (E := envQ) (es := asksL.take 10) rfl rfl rfl rfl rfl) ?_
 refine yce (v := .agg [.int .i64 1, .int .i64 1, .int .i64 0]) ?_
 refine ybl (g := Sb.push h (.map (asksL.take 12))) (ybk (E := envQ) (es := asksL.take 11) rfl rfl rfl rfl rfl) ?_
 refine yce (v := .agg [.int .i64 1, .int .i64 1, .int .i64 0]) ?_
 refine ybl (g := Sb.push h (.map (asksL.take 13))) (ybk (E := envQ) (es := asksL.take 12) rfl rfl rfl rfl rfl) ?_
 refine yce (v := .agg [.int .i64 1, .int .i64 1, .int .i64 1]) ?_
 refine ybl (g := Sb.push h (.map (asksL.take 14))) (ybk (E := envQ) (es := asksL.take 13) rfl rfl rfl rfl rfl) ?_
 refine yce (v := .agg [.int .i64 0, .int .i64 1, .int .i64 1]) ?_
 refine ybl (g := Sb.push h (.map (asksL.take 15))) (ybk (E := envQ) (es := asksL.take 14) rfl rfl rfl rfl rfl) ?_
 refine yce (v := .agg [.int .i64 0, .int .i64 1, .int .i64 0]) ?_
 refine ybl (g := Sb.push h (.map (asksL.take 16))) (ybk (E := envQ) (es := asksL.take 15) rfl rfl rfl rfl rfl) ?_
 refine yce (v := .agg [.int .i64 0, .int .i64 0, .int .i64 0]) ?_
 refine ybl (g := Sb.push h (.map (asksL.take 17))) (ybk (E := envQ) (es := asksL.take 16) rfl rfl rfl rfl rfl) ?_
 refine yce (v := .agg [.int .i64 0, .int .i64 0, .int .i64 0]) ?_
 refine ybl (g := Sb.push h (.map (asksL.take 18))) (ybk (E := envQ) (es := asksL.take 17) rfl rfl rfl rfl rfl) ?_
 refine yce (v := .agg [.int .i64 1, .int .i64 1, .int .i64 0]) ?_
 refine ybl (g := Sb.push h (.map (asksL.take 19))) (ybk (E := envQ) (es := asksL.take 18) rfl rfl rfl rfl rfl) ?_
 refine yce (v := .agg [.int .i64 1, .int .i64 1, .int .i64 0]) ?_
 refine ybl (g := Sb.push h (.map (asksL.take 20))) (ybk (E := envQ) (es := asksL.take 19) rfl rfl rfl rfl rfl) ?_
 refine jV ?_
 exact ⟨rfl, rfl, rfl⟩
theorem yro (op : Int) : findV (.int .i64 op) formsL = some (if 1 ≤ op ∧ op ≤ 14 then some (formV op) else none) := by
 by_cases h : 1 ≤ op ∧ op ≤ 14
 ·have e : op = 1 ∨ op = 2 ∨ op = 3 ∨ op = 4 ∨ op = 5 ∨ op = 6 ∨ op = 7 ∨ op = 8 ∨ op = 9 ∨ op = 10 ∨ op = 11 ∨ op = 12 ∨ op = 13 ∨ op = 14 := by omega
  rw [if_pos h]
  rcases e with rfl | rfl | rfl | rfl | rfl | rfl | rfl | rfl | rfl | rfl | rfl | rfl | rfl | rfl <;> rfl
 ·rw [if_neg h]
  simp only [formsL, findV, if_true]
  repeat rw [if_neg (by omega)]
theorem yxd (b : Int) : findV (.int .i64 b) asksL = some (if 1 ≤ b ∧ b ≤ 21 ∧ b ≠ 5 then some (askV b) else none) := by
 by_cases h : 1 ≤ b ∧ b ≤ 21 ∧ b ≠ 5
 ·have e : b = 1 ∨ b = 2 ∨ b = 3 ∨ b = 4 ∨ b = 6 ∨ b = 7 ∨ b = 8 ∨ b = 9 ∨ b = 10 ∨ b = 11 ∨ b = 12 ∨ b = 13 ∨ b = 14 ∨ b = 15 ∨ b = 16 ∨ b = 17 ∨ b = 18 ∨ b = 19 ∨ b = 20 ∨ b = 21 := by omega
  rw [if_pos h]
  rcases e with rfl | rfl | rfl | rfl | rfl | rfl | rfl | rfl | rfl | rfl | rfl | rfl | rfl | rfl | rfl | rfl | rfl | rfl | rfl | rfl <;> rfl
 ·rw [if_neg h]
  simp only [asksL, findV, if_true]
  repeat rw [if_neg (by omega)]
theorem fz0 {op : Int} (h : ¬ (1 ≤ op ∧ op ≤ 14)) : formV op = .agg [.str [], .int .i64 0, .int .i64 0, .int .i64 0, .int .i64 0, .int .i64 0, .bool false, .bool false, .bool false, .bool false] := by
 unfold formV fN fA fB fC fLo fHi fPl fVa fGo fRa
 repeat rw [if_neg (by omega)]
theorem kz0 {b : Int} (h : ¬ (1 ≤ b ∧ b ≤ 21 ∧ b ≠ 5)) : askV b = .agg [.int .i64 0, .int .i64 0, .int .i64 0] := by
 unfold askV kLo kHi kC
 repeat rw [if_neg (by omega)]
theorem yxe {G : Heap} {M : Nat} (hmap : G[M]? = some (.map formsL)) (op : Int) : yhl envQ 134 (.mp M) (.int .i64 op) true G = some (.tup [formV op, .bool (decide (1 ≤ op ∧ op ≤ 14))]) := by
 show (match G[M]? with | some (.map es) => some es | _ => none).bind (fun es => (findV (.int .i64 op) es).bind fun r => some (match r, true with | some v, true => V.tup [v, .bool true] | some v, false => v | none, true => V.tup [.agg (ty133).zero, .bool false] | none, false => .agg (ty133).zero)) = _
 rw [hmap]
 simp only [Option.bind_some, yro]
 by_cases h : 1 ≤ op ∧ op ≤ 14
 ·rw [if_pos h, decide_eq_true h]
 ·rw [if_neg h, decide_eq_false h, fz0 h]; rfl
theorem yxf {G : Heap} {M : Nat} (hmap : G[M]? = some (.map formsL)) (op : Int) : yhl envQ 134 (.mp M) (.int .i64 op) false G = some (formV op) := by
 show (match G[M]? with | some (.map es) => some es | _ => none).bind (fun es => (findV (.int .i64 op) es).bind fun r => some (match r, false with | some v, true => V.tup [v, .bool true] | some v, false => v | none, true => V.tup [.agg (ty133).zero, .bool false] | none, false => .agg (ty133).zero)) = _
 rw [hmap]
 simp only [Option.bind_some, yro]
 by_cases h : 1 ≤ op ∧ op ≤ 14
 ·rw [if_pos h]
 ·rw [if_neg h, fz0 h]; rfl
theorem yxg {G : Heap} {M : Nat} (hmap : G[M]? = some (.map asksL)) (b : Int) : yhl envQ 154 (.mp M) (.int .i64 b) true G = some (.tup [askV b, .bool (decide (1 ≤ b ∧ b ≤ 21 ∧ b ≠ 5))]) := by
 show (match G[M]? with | some (.map es) => some es | _ => none).bind (fun es => (findV (.int .i64 b) es).bind fun r => some (match r, true with | some v, true => V.tup [v, .bool true] | some v, false => v | none, true => V.tup [.agg (ty152).zero, .bool false] | none, false => .agg (ty152).zero)) = _
 rw [hmap]
 simp only [Option.bind_some, yxd]
 by_cases h : 1 ≤ b ∧ b ≤ 21 ∧ b ≠ 5
 ·rw [if_pos h, decide_eq_true h]
 ·rw [if_neg h, decide_eq_false h, kz0 h]; rfl
theorem goes_has (h : Heap) (op : Int) : Has envQ .own 94 [.int .i64 op] h (.val (.bool (fGo op)) h) := by
 suffices hx : ∃ v, Has envQ .own 94 [.int .i64 op] h (.val v h) ∧ v = .bool (fGo op) by
  obtain ⟨v, h1, rfl⟩ := hx; exact h1
 refine HasP.ownE (a := [.int .i64 op]) (d := fn94) rfl rfl rfl (jT rfl) ?_
 apply jA
 apply jB
 apply jA
 refine jR _ ?_
 refine ybe (s' := [_,_,_,_,_,_,_,_]) rfl (fun K hK => CallK.of (yrn _) hK) rfl ?_
 refine ybe (s' := [_,_,_,_,_,_,_,_]) rfl (fun _ => id) rfl ?_
 refine ybe (s' := [_,_,_,_,_,_,_,_]) rfl (fun K hK => ycn (congrArg (fun x => val x [.map formsL]) (yxf (G := [.map formsL]) (M := 0) rfl op)) hK) rfl ?_
 iterate 2 (refine ybe (s' := [_,_,_,_,_,_,_,_]) rfl (fun _ => id) rfl ?_)
 refine jV ?_
 exact ⟨rfl, _, rfl, jO _, rfl⟩
end Go.Proofs.YtekmafoicobphaaGreatDoor
