/- The examples of the chapter on reading: what they say. No program in sight. -/
import Derived.Test.YtelpkldlkpoioaaReadGood3
namespace Go.Proofs.Ytelpkldlkpoioaa.Ready
open Go.Proofs.Ytelpkldlkpoioaa.Lexy

/-- "%token <int> N; %% l(X): X | l(X) N %prec N { $$ = $2 }; s: ;" -/
def exS : List UInt8 := [37, 116, 111, 107, 101, 110, 32, 60, 105, 110, 116, 62, 32, 78, 59, 32, 37, 37, 32, 108, 40, 88, 41, 58, 32, 88, 32, 124, 32, 108, 40, 88, 41, 32, 78, 32, 37, 112, 114, 101, 99, 32, 78, 32, 123, 32, 36, 36, 32, 61, 32, 36, 50, 32, 125, 59, 32, 115, 58, 32, 59]
def exT : List Tok := [⟨1, [116, 111, 107, 101, 110], 0⟩, ⟨6, [60], 7⟩, ⟨2, [105, 110, 116], 8⟩, ⟨6, [62], 11⟩, ⟨2, [78], 13⟩, ⟨6, [59], 14⟩, ⟨6, [37, 37], 16⟩, ⟨2, [108], 19⟩, ⟨6, [40], 20⟩, ⟨2, [88], 21⟩, ⟨6, [41], 22⟩, ⟨6, [58], 23⟩, ⟨2, [88], 25⟩, ⟨6, [124], 27⟩, ⟨2, [108], 29⟩, ⟨6, [40], 30⟩, ⟨2, [88], 31⟩, ⟨6, [41], 32⟩, ⟨2, [78], 34⟩, ⟨1, [112, 114, 101, 99], 36⟩, ⟨2, [78], 42⟩, ⟨9, [32, 36, 36, 32, 61, 32, 36, 50, 32], 44⟩, ⟨6, [59], 55⟩, ⟨2, [115], 57⟩, ⟨6, [58], 58⟩, ⟨6, [59], 60⟩, ⟨7, [], 61⟩]
theorem exS_toks : toks exS = .good exT := by decide +kernel
def exA : Al := ⟨[.mk [88] [] 25], [], false, [], 0, 25⟩
def exB : Al := ⟨[.mk [108] [.mk [88] [] 31] 29, .mk [78] [] 34], [78], true, [32, 36, 36, 32, 61, 32, 36, 50, 32], 45, 29⟩
def exR1 : Ru := ⟨[108], [[88]], [exA, exB], 19⟩
def exR2 : Ru := ⟨[115], [], [⟨[], [], false, [], 0, 60⟩], 57⟩
def exD : De := ⟨[116, 111, 107, 101, 110], [105, 110, 116], [[78]], 0⟩
def exX : Tx := ⟨[exD], [exR1, exR2]⟩
theorem ex_decls : DeclsR exT 0 [] (.ok [exD] 6) := .next (x := exD) (k1 := 6) (by rfl) (by rfl) (.stop (by rfl))
theorem ex_words1 : WordsR exT 12 [] (.ok [.mk [88] [] 25] 13) := .next (x := .mk [88] [] 25) (k1 := 13) (by rfl) (.name (by rfl) (by omega) (by rfl)) (.stop (by rfl))
theorem ex_alt1 : AltR exT 12 (.ok exA 13) := .ok (k2 := 13) (q := []) ex_words1 (by rfl)
theorem ex_word2 : PR exT (.word 14 0) (.one (.mk [108] [.mk [88] [] 31] 29) 18) := .whole (x := .mk [88] [] 31) (k1 := 17) (k2 := 17) (by rfl) (by omega) (by rfl) (.name (by rfl) (by omega) (by rfl)) (.stop (by rfl)) (by rfl)
theorem ex_words2 : WordsR exT 14 [] (.ok [.mk [108] [.mk [88] [] 31] 29, .mk [78] [] 34] 19) :=
  .next (x := .mk [108] [.mk [88] [] 31] 29) (k1 := 18) (by rfl) ex_word2 (.next (x := .mk [78] [] 34) (k1 := 19) (by rfl) (.name (by rfl) (by omega) (by rfl)) (.stop (by rfl)))
theorem ex_alt2 : AltR exT 14 (.ok exB 22) := .ok (k2 := 21) (q := [78]) ex_words2 (by rfl)
theorem ex_rule1 : RuleR exT 7 (.ok exR1 23) := .whole (ps := [[88]]) (k1 := 11) (k2 := 13) (k3 := 22) (a := exA) (as := [exA, exB]) (by rfl) (.whole (k1 := 10) (by rfl) (by rfl) (.stop (by rfl)) (by rfl)) (by rfl) ex_alt1 (.next (x := exB) (k1 := 22) (by rfl) ex_alt2 (.stop (by rfl))) (by rfl)
theorem ex_alt3 : AltR exT 25 (.ok ⟨[], [], false, [], 0, 60⟩ 25) := .ok (k2 := 25) (q := []) (.stop (by rfl)) (by rfl)
theorem ex_rule2 : RuleR exT 23 (.ok exR2 26) := .whole (ps := []) (k1 := 24) (k2 := 25) (k3 := 25) (a := ⟨[], [], false, [], 0, 60⟩) (as := [⟨[], [], false, [], 0, 60⟩]) (by rfl) (.none (by rfl)) (by rfl) ex_alt3 (.stop (by rfl)) (by rfl)
theorem ex_text : TextR exT (.ok exX 26) := .whole ex_decls (by rfl) (.next (x := exR1) (k1 := 23) (by rfl) ex_rule1 (.next (x := exR2) (k1 := 26) (by rfl) ex_rule2 (.stop (by rfl))))
/-- "%% e: ( :" -/
def exS2 : List UInt8 := [37, 37, 32, 101, 58, 32, 40, 32, 58]
def exT2 : List Tok := [⟨6, [37, 37], 0⟩, ⟨2, [101], 3⟩, ⟨6, [58], 4⟩, ⟨6, [40], 6⟩, ⟨6, [58], 8⟩, ⟨7, [], 9⟩]
theorem exS2_toks : toks exS2 = .good exT2 := by decide +kernel
theorem ex_text2 : TextR exT2 (.bad 102 6) :=
  .rules (ds := []) (k := 0) (.stop (by rfl)) (by rfl) (.fail (by rfl) (.semi (ps := []) (k1 := 2) (k2 := 3) (k3 := 3) (a := ⟨[], [], false, [], 0, 6⟩) (as := [⟨[], [], false, [], 0, 6⟩]) (by rfl) (.none (by rfl)) (by rfl) (.ok (k2 := 3) (q := []) (.stop (by rfl)) (by rfl)) (.stop (by rfl)) (by rfl)))
/-- "%left <int> P;" -/
def exS3 : List UInt8 := [37, 108, 101, 102, 116, 32, 60, 105, 110, 116, 62, 32, 80, 59]
def exT3 : List Tok := [⟨1, [108, 101, 102, 116], 0⟩, ⟨6, [60], 6⟩, ⟨2, [105, 110, 116], 7⟩, ⟨6, [62], 10⟩, ⟨2, [80], 12⟩, ⟨6, [59], 13⟩, ⟨7, [], 14⟩]
theorem exS3_toks : toks exS3 = .good exT3 := by decide +kernel
theorem ex_text3 : TextR exT3 (.bad 102 6) := .decls (.fail (by rfl) (by rfl))
end Go.Proofs.Ytelpkldlkpoioaa.Ready
