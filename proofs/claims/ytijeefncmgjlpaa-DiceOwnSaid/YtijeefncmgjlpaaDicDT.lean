import Derived.Test.YtijeefncmgjlpaaDicD0
import Derived.Test.YtijeefncmgjlpaaDicD1
namespace Go.Proofs.Try.Dn
open Go.Dn

def tab : Tab := (.two 70 (.two 46 (.two 29 (.two 23 (.two 19 (.one 17 d17) (.two 20 (.one 19 d19) (.one 20 d20))) (.two 25 (.two 24 (.one 23 d23) (.one 24 d24)) (.two 28 (.one 25 d25) (.one 28 d28)))) (.two 41 (.two 35 (.two 31 (.one 29 d29) (.one 31 d31)) (.two 36 (.one 35 d35) (.one 36 d36))) (.two 43 (.two 42 (.one 41 d41) (.one 42 d42)) (.two 44 (.one 43 d43) (.one 44 d44))))) (.two 58 (.two 54 (.two 47 (.one 46 d46) (.two 48 (.one 47 d47) (.one 48 d48))) (.two 56 (.two 55 (.one 54 d54) (.one 55 d55)) (.two 57 (.one 56 d56) (.one 57 d57)))) (.two 65 (.two 61 (.two 60 (.one 58 d58) (.one 60 d60)) (.two 63 (.one 61 d61) (.one 63 d63))) (.two 68 (.two 66 (.one 65 d65) (.one 66 d66)) (.two 69 (.one 68 d68) (.one 69 d69)))))) (.two 91 (.two 82 (.two 77 (.two 75 (.one 70 d70) (.two 76 (.one 75 d75) (.one 76 d76))) (.two 79 (.two 78 (.one 77 d77) (.one 78 d78)) (.two 80 (.one 79 d79) (.one 80 d80)))) (.two 86 (.two 84 (.two 83 (.one 82 d82) (.one 83 d83)) (.two 85 (.one 84 d84) (.one 85 d85))) (.two 88 (.two 87 (.one 86 d86) (.one 87 d87)) (.two 90 (.one 88 d88) (.one 90 d90))))) (.two 100 (.two 94 (.two 92 (.one 91 d91) (.two 93 (.one 92 d92) (.one 93 d93))) (.two 97 (.two 95 (.one 94 d94) (.one 95 d95)) (.two 98 (.one 97 d97) (.one 98 d98)))) (.two 108 (.two 102 (.two 101 (.one 100 d100) (.one 101 d101)) (.two 103 (.one 102 d102) (.one 103 d103))) (.two 110 (.two 109 (.one 108 d108) (.one 109 d109)) (.two 131 (.one 110 d110) (.one 131 d131)))))))

theorem tab_ok : tab.Ok Try.prog := ⟨⟨⟨⟨⟨ok17, ⟨ok19, ok20⟩⟩, ⟨⟨ok23, ok24⟩, ⟨ok25, ok28⟩⟩⟩, ⟨⟨⟨ok29, ok31⟩, ⟨ok35, ok36⟩⟩, ⟨⟨ok41, ok42⟩, ⟨ok43, ok44⟩⟩⟩⟩, ⟨⟨⟨ok46, ⟨ok47, ok48⟩⟩, ⟨⟨ok54, ok55⟩, ⟨ok56, ok57⟩⟩⟩, ⟨⟨⟨ok58, ok60⟩, ⟨ok61, ok63⟩⟩, ⟨⟨ok65, ok66⟩, ⟨ok68, ok69⟩⟩⟩⟩⟩, ⟨⟨⟨⟨ok70, ⟨ok75, ok76⟩⟩, ⟨⟨ok77, ok78⟩, ⟨ok79, ok80⟩⟩⟩, ⟨⟨⟨ok82, ok83⟩, ⟨ok84, ok85⟩⟩, ⟨⟨ok86, ok87⟩, ⟨ok88, ok90⟩⟩⟩⟩, ⟨⟨⟨ok91, ⟨ok92, ok93⟩⟩, ⟨⟨ok94, ok95⟩, ⟨ok97, ok98⟩⟩⟩, ⟨⟨⟨ok100, ok101⟩, ⟨ok102, ok103⟩⟩, ⟨⟨ok108, ok109⟩, ⟨ok110, ok131⟩⟩⟩⟩⟩⟩

end Go.Proofs.Try.Dn

