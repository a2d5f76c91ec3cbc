import Derived.Test.YtdjbpmgbaggfbaaDoorKniD0
import Derived.Test.YtdjbpmgbaggfbaaDoorKniD1
import Derived.Test.YtdjbpmgbaggfbaaDoorKniD2
namespace Go.Proofs.Tryd.Dn
open Go.Dn

def tab : Tab := (.two 71 (.two 56 (.two 28 (.two 20 (.two 18 (.one 15 d15) (.two 19 (.one 18 d18) (.one 19 d19))) (.two 25 (.one 20 d20) (.two 26 (.one 25 d25) (.one 26 d26)))) (.two 45 (.two 29 (.one 28 d28) (.two 38 (.one 29 d29) (.one 38 d38))) (.two 54 (.two 48 (.one 45 d45) (.one 48 d48)) (.two 55 (.one 54 d54) (.one 55 d55))))) (.two 63 (.two 60 (.two 58 (.one 56 d56) (.two 59 (.one 58 d58) (.one 59 d59))) (.two 61 (.one 60 d60) (.two 62 (.one 61 d61) (.one 62 d62)))) (.two 67 (.two 64 (.one 63 d63) (.two 65 (.one 64 d64) (.one 65 d65))) (.two 69 (.two 68 (.one 67 d67) (.one 68 d68)) (.two 70 (.one 69 d69) (.one 70 d70)))))) (.two 89 (.two 82 (.two 75 (.two 73 (.one 71 d71) (.two 74 (.one 73 d73) (.one 74 d74))) (.two 80 (.one 75 d75) (.two 81 (.one 80 d80) (.one 81 d81)))) (.two 85 (.two 83 (.one 82 d82) (.two 84 (.one 83 d83) (.one 84 d84))) (.two 87 (.two 86 (.one 85 d85) (.one 86 d86)) (.two 88 (.one 87 d87) (.one 88 d88))))) (.two 97 (.two 92 (.two 90 (.one 89 d89) (.two 91 (.one 90 d90) (.one 91 d91))) (.two 95 (.two 93 (.one 92 d92) (.one 93 d93)) (.two 96 (.one 95 d95) (.one 96 d96)))) (.two 100 (.two 98 (.one 97 d97) (.two 99 (.one 98 d98) (.one 99 d99))) (.two 102 (.two 101 (.one 100 d100) (.one 101 d101)) (.two 103 (.one 102 d102) (.one 103 d103)))))))

theorem tab_ok : tab.Ok Tryd.prog := ⟨⟨⟨⟨⟨ok15, ⟨ok18, ok19⟩⟩, ⟨ok20, ⟨ok25, ok26⟩⟩⟩, ⟨⟨ok28, ⟨ok29, ok38⟩⟩, ⟨⟨ok45, ok48⟩, ⟨ok54, ok55⟩⟩⟩⟩, ⟨⟨⟨ok56, ⟨ok58, ok59⟩⟩, ⟨ok60, ⟨ok61, ok62⟩⟩⟩, ⟨⟨ok63, ⟨ok64, ok65⟩⟩, ⟨⟨ok67, ok68⟩, ⟨ok69, ok70⟩⟩⟩⟩⟩, ⟨⟨⟨⟨ok71, ⟨ok73, ok74⟩⟩, ⟨ok75, ⟨ok80, ok81⟩⟩⟩, ⟨⟨ok82, ⟨ok83, ok84⟩⟩, ⟨⟨ok85, ok86⟩, ⟨ok87, ok88⟩⟩⟩⟩, ⟨⟨⟨ok89, ⟨ok90, ok91⟩⟩, ⟨⟨ok92, ok93⟩, ⟨ok95, ok96⟩⟩⟩, ⟨⟨ok97, ⟨ok98, ok99⟩⟩, ⟨⟨ok100, ok101⟩, ⟨ok102, ok103⟩⟩⟩⟩⟩⟩

end Go.Proofs.Tryd.Dn

